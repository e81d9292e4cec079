import Derived.Test.YtjfmbdigfnablaaGreatAv23
import Derived.Test.YtjfmbdigfnablaaGreatZCode1FnSplits
import Derived.Test.YtjfmbdigfnablaaGreatProg
namespace Go.Av
open Go.Proofs
set_option maxRecDepth 1000000
/-! 141 impl.EvalExpr -/
def s141 : SCode :=
  (sqs [
    (.reg [o 3 (.box 3 (T 1)), o 4 (.mov (I 0))]),
    (sqs [
      (.reg [o 7 (.mov (T 0)), o 8 (.call 84 [(T 7)]), o 9 (.not (T 8)), o 10 (.mov (T 9)), og 11 (.load true 3 (T 3)) 10 false, og 12 (.call 160 [(T 11)]) 10 false, og 13 (.not (T 12)) 10 false, o 14 (.pick (T 10) (B true) (T 13))]),
      (.cond (T 14)
        (sqs [
          (.reg [o 4 (.mov (I 0))]),
          .ret])
        .skip)]),
    (.regD [o 15 (.mov (T 0)), o 16 (.fieldAddr 1 (T 3)), ⟨some 17, (.load false 1 (T 16)), none, 2, []⟩, o 19 (.mov (T 0)), o 20 (.fieldAddr 2 (T 3)), ⟨some 21, (.load false 1 (T 20)), none, 6, []⟩, ⟨some 18, (.call 196 [(T 15), (T 17)]), none, 0, [6]⟩, o 22 (.call 196 [(T 19), (T 21)]), o 5 (.mov (T 18)), o 6 (.mov (T 22))]),
    (sqs [
      (.reg [o 23 (.fieldAddr 0 (T 3)), o 24 (.load false 1 (T 23))]),
      (.block 0
        (sqs [
          (.reg [o 26 (.bin .eql (T 24) (I 1)), o 25 (.mov (T 26))]),
          (.cond (T 25)
            (sqs [
              (.reg [o 27 (.mov (T 5)), o 28 (.mov (T 6)), o 29 (.call 197 [(T 27), (T 28)]), o 4 (.mov (T 29))]),
              .ret])
            (sqs [
              (.reg [o 31 (.bin .eql (T 24) (I 2)), o 30 (.mov (T 31))]),
              (.cond (T 30)
                (sqs [
                  (.reg [o 32 (.mov (T 5)), o 33 (.mov (T 6)), o 34 (.call 198 [(T 32), (T 33)]), o 4 (.mov (T 34))]),
                  .ret])
                (sqs [
                  (.reg [o 36 (.bin .eql (T 24) (I 3)), o 35 (.mov (T 36))]),
                  (.cond (T 35)
                    (sqs [
                      (.reg [o 37 (.mov (T 5)), o 38 (.mov (T 6)), o 39 (.call 199 [(T 37), (T 38)]), o 4 (.mov (T 39))]),
                      .ret])
                    (sqs [
                      (.reg [o 41 (.bin .eql (T 24) (I 4)), o 40 (.mov (T 41))]),
                      (.cond (T 40)
                        (sqs [
                          (.reg [o 42 (.mov (T 5)), o 43 (.mov (T 6)), o 44 (.min (T 42) (T 43)), o 4 (.mov (T 44))]),
                          .ret])
                        (sqs [
                          (.reg [o 46 (.bin .eql (T 24) (I 5)), o 45 (.mov (T 46))]),
                          (.cond (T 45)
                            (sqs [
                              (.reg [o 47 (.mov (T 5)), o 48 (.mov (T 6)), o 49 (.max (T 47) (T 48)), o 4 (.mov (T 49))]),
                              .ret])
                            (sqs [
                              (.reg [o 51 (.bin .eql (T 24) (I 6)), o 50 (.mov (T 51))]),
                              (.cond (T 50)
                                (sqs [
                                  (.reg [o 52 (.mov (T 5)), o 53 (.mov (T 6)), o 54 (.bin .lss (T 52) (T 53)), o 55 (.call 71 [(T 54)]), o 4 (.mov (T 55))]),
                                  .ret])
                                .skip)]))]))]))]))]))]))]),
    (.reg [o 56 (.mov (T 5)), o 57 (.mov (T 6)), o 58 (.bin .eql (T 56) (T 57)), o 59 (.call 71 [(T 58)]), o 4 (.mov (T 59))]),
    .ret])
theorem ok141 : cfn Tryz.prog Tryz.f141 2 = some (s141, [.tmp 4]) := by kernel_rfl

/-! 142 impl.copyTask -/
def s142 : SCode :=
  (sqs [
    (.reg [o 1 (.box 4 (T 0)), o 2 (.zero [.nils, (.int .i64 0), (.int .i64 0), (.int .i64 0)])]),
    (.reg [o 3 (.fieldAddr 0 (T 1)), o 4 (.load false 1 (T 3)), o 5 (.call 143 [(T 4)]), o 6 (.fieldAddr 0 (T 1)), on_ (.store 1 (T 6) (T 5))]),
    (.reg [o 7 (.load true 4 (T 1)), on_ (.store 4 (T 2) (T 7))]),
    .ret])
theorem ok142 : cfn Tryz.prog Tryz.f142 1 = some (s142, [.cell 2 true 4]) := by kernel_rfl

/-! 143 slices.Clone[[]impl.Stmt,impl.Stmt] -/
def s143 : SCode :=
  (sqs [
    (.reg [o 2 (.mov N)]),
    (sqs [
      (.reg [o 3 (.mov (T 0)), o 4 (.isnil 44 false (T 3))]),
      (.cond (T 4)
        (sqs [
          (.reg [o 2 (.mov N)]),
          .ret])
        .skip)]),
    (.reg [o 5 (.lit 0 6 [(.int .i64 0), (.int .i64 0), (.int .i64 0), (.int .i64 0), (.int .i64 0), (.int .i64 0)] []), o 6 (.mov (T 0)), o 7 (.append 6 48 (T 5) (T 6)), o 2 (.mov (T 7))]),
    .ret])
theorem ok143 : cfn Tryz.prog Tryz.f143 1 = some (s143, [.tmp 2]) := by kernel_rfl

/-! 144 impl.areValues$1 -/
def s144 : SCode :=
  (sqs [
    (.reg [o 2 (.mov (B false))]),
    (.reg [o 3 (.mov (T 0)), o 4 (.call 145 [(T 3)]), o 5 (.not (T 4)), o 2 (.mov (T 5))]),
    .ret])
theorem ok144 : cfn Tryz.prog Tryz.f144 1 = some (s144, [.tmp 2]) := by kernel_rfl

/-! 145 impl.IsValue -/
def s145 : SCode :=
  (sqs [
    (.reg [o 2 (.mov (B false))]),
    (.reg [o 3 (.mov (T 0)), o 4 (.call 114 [(T 3), (I (-1000000)), (I 1000000)]), o 2 (.mov (T 4))]),
    .ret])
theorem ok145 : cfn Tryz.prog Tryz.f145 1 = some (s145, [.tmp 2]) := by kernel_rfl

/-! 146 impl.walk -/
def s146 : SCode :=
  (sqs [
    (.reg [o 4 (.mov (I 0))]),
    (.block 0
      (.loop
        (sqs [
          (sqs [
            (.reg [o 9 (.mov (T 4)), o 10 (.mov (T 0)), o 11 (.len (T 10)), o 12 (.bin .lss (T 9) (T 11))]),
            (.cond (T 12)
              .skip
              (.exit 0))]),
          (.block 1
            (sqs [
              (.reg [o 15 (.mov (T 0)), o 16 (.mov (T 4)), o 17 (.idxAddr 6 (T 15) (T 16)), o 18 (.load true 6 (T 17)), o 5 (.hole 6), o 5 (.birth 6 (T 5) (T 18))]),
              (sqs [
                (.reg [o 19 (.fieldAddr 0 (T 5)), o 20 (.load false 1 (T 19)), o 21 (.bin .eql (T 20) (I 6))]),
                (.cond (T 21)
                  (.exit 1)
                  .skip)]),
              (.reg [o 22 (.mov (T 1)), o 23 (.load true 6 (T 5)), o 24 (.callv (T 22) [(T 23)]), o 6 (.mov (T 24))]),
              (sqs [
                (.reg [o 25 (.fieldAddr 0 (T 5)), o 26 (.load false 1 (T 25)), o 27 (.call 134 [(T 26)]), o 28 (.not (T 27))]),
                (.cond (T 28)
                  (.exit 1)
                  .skip)]),
              (.reg [o 29 (.mov (T 0)), o 30 (.mov (T 4)), o 31 (.call 161 [(T 29), (T 30)]), o 7 (.mov (T 31))]),
              (.reg [o 32 (.fieldAddr 2 (T 5)), o 33 (.load false 1 (T 32)), o 8 (.mov (T 33))]),
              (sqs [
                (.reg [o 34 (.fieldAddr 0 (T 5)), o 35 (.load false 1 (T 34)), o 36 (.bin .eql (T 35) (I 4))]),
                (.cond (T 36)
                  (.reg [o 37 (.mov (T 6)), o 38 (.call 71 [(T 37)]), o 8 (.mov (T 38))])
                  .skip)]),
              (sqs [
                (.reg [o 39 (.mov (T 8)), o 40 (.mov (I 0))]),
                (.block 2
                  (.loop
                    (sqs [
                      (.reg [o 41 (.bin .lss (T 40) (T 39))]),
                      (.cond (T 41)
                        .skip
                        (.exit 2)),
                      (.block 3
                        (.reg [o 42 (.mov (T 0)), o 43 (.mov (T 4)), o 44 (.bin .add (T 43) (I 1)), o 45 (.mov (T 7)), o 46 (.slice 6 (T 42) (some (T 44)) (some (T 45))), o 47 (.mov (T 1)), o 48 (.call 146 [(T 46), (T 47)])])),
                      (.reg [o 49 (.bin .add (T 40) (I 1)), o 40 (.mov (T 49))])])))]),
              (.reg [o 50 (.mov (T 7)), o 4 (.mov (T 50))])])),
          (.reg [o 13 (.mov (T 4)), o 14 (.bin .add (T 13) (I 1)), o 4 (.mov (T 14))])])))])
theorem ok146 : cfn Tryz.prog Tryz.f146 2 = some (s146, []) := by kernel_rfl

/-! 147 impl.effect$1 -/
def s147 : SCode :=
  (sqs [
    (.reg [o 3 (.box 6 (T 0)), o 4 (.mov (B false))]),
    (sqs [
      (.reg [o 5 (.fieldAddr 0 (T 3)), o 6 (.load false 1 (T 5))]),
      (.block 0
        (sqs [
          (.reg [o 8 (.bin .eql (T 6) (I 2)), o 7 (.mov (T 8))]),
          (.cond (T 7)
            (sqs [
              (.regD [o 9 (.fieldAddr 0 (T 2)), ⟨some 10, (.load false 1 (T 9)), none, 1, []⟩, o 11 (.fieldAddr 1 (T 3)), ⟨some 12, (.load false 1 (T 11)), none, 3, []⟩, ⟨some 13, (.load false 1 (T 1)), none, 4, []⟩, o 14 (.fieldAddr 3 (T 2)), ⟨some 15, (.load false 1 (T 14)), none, 6, []⟩, o 16 (.fieldAddr 2 (T 3)), ⟨some 17, (.load false 1 (T 16)), none, 8, []⟩, ⟨some 18, (.callv (T 13) [(T 15), (T 17)]), none, 0, [1, 3]⟩, o 19 (.idxAddr 1 (T 10) (T 12)), on_ (.store 1 (T 19) (T 18))]),
              (.reg [o 20 (.fieldAddr 3 (T 2)), o 21 (.load false 1 (T 20)), o 22 (.bin .add (T 21) (I 1)), o 23 (.fieldAddr 3 (T 2)), on_ (.store 1 (T 23) (T 22))])])
            (sqs [
              (.reg [o 25 (.bin .eql (T 6) (I 1)), o 24 (.mov (T 25))]),
              (.cond (T 24)
                (.regD [o 26 (.fieldAddr 0 (T 2)), ⟨some 27, (.load false 1 (T 26)), none, 1, []⟩, o 28 (.fieldAddr 1 (T 3)), ⟨some 29, (.load false 1 (T 28)), none, 3, []⟩, o 30 (.fieldAddr 0 (T 2)), ⟨some 31, (.load false 1 (T 30)), none, 5, []⟩, o 32 (.fieldAddr 3 (T 3)), ⟨some 33, (.load true 3 (T 32)), none, 7, []⟩, ⟨some 34, (.call 141 [(T 31), (T 33)]), none, 0, [1, 3]⟩, o 35 (.idxAddr 1 (T 27) (T 29)), on_ (.store 1 (T 35) (T 34))])
                (sqs [
                  (.reg [o 37 (.bin .eql (T 6) (I 3)), o 36 (.mov (T 37))]),
                  (.cond (T 36)
                    (.regD [o 38 (.fieldAddr 1 (T 2)), ⟨some 39, (.load false 1 (T 38)), none, 1, []⟩, o 40 (.fieldAddr 0 (T 2)), ⟨some 41, (.load false 1 (T 40)), none, 3, []⟩, o 42 (.fieldAddr 3 (T 3)), ⟨some 43, (.load true 3 (T 42)), none, 5, []⟩, ⟨some 44, (.call 141 [(T 41), (T 43)]), none, 0, [1]⟩, ⟨some 45, (.lit 1 1 [(.int .i64 0)] [(0, (T 44))]), none, 0, [1]⟩, o 46 (.append 1 8 (T 39) (T 45)), o 47 (.fieldAddr 1 (T 2)), on_ (.store 1 (T 47) (T 46))])
                    (sqs [
                      (.reg [o 49 (.bin .eql (T 6) (I 4)), o 48 (.mov (T 49))]),
                      (.cond (T 48)
                        (sqs [
                          (.reg [o 50 (.fieldAddr 0 (T 2)), o 51 (.load false 1 (T 50)), o 52 (.fieldAddr 3 (T 3)), o 53 (.load true 3 (T 52)), o 54 (.call 141 [(T 51), (T 53)]), o 55 (.bin .neq (T 54) (I 0)), o 4 (.mov (T 55))]),
                          .ret])
                        .skip)]))]))]))]))]),
    (.reg [o 4 (.mov (B true))]),
    .ret])
theorem ok147 : cfn Tryz.prog Tryz.f147 3 = some (s147, [.tmp 4]) := by kernel_rfl

/-! 148 impl.NextTask -/
def s148 : SCode :=
  (sqs [
    (.reg [o 3 (.box 1 (T 0)), o 6 (.mov (I 0))]),
    (sqs [
      (.reg [o 8 (.load true 1 (T 3)), o 9 (.mov (T 2)), o 10 (.call 79 [(T 8), (T 9)]), o 11 (.not (T 10)), o 12 (.mov (T 11)), og 13 (.mov (T 1)) 12 false, og 14 (.call 84 [(T 13)]) 12 false, og 15 (.not (T 14)) 12 false, o 16 (.pick (T 12) (B true) (T 15))]),
      (.cond (T 16)
        (sqs [
          (.reg [o 6 (.mov (I (-1)))]),
          .ret])
        .skip)]),
    (.reg [o 17 (.fieldAddr 0 (T 3)), o 18 (.load false 1 (T 17)), o 19 (.len (T 18)), o 7 (.mov (T 19))]),
    (.reg [o 20 (.mov (T 1)), o 21 (.fieldAddr 0 (T 3)), o 22 (.load false 1 (T 21)), o 23 (.mov (T 2)), o 24 (.idxAddr 4 (T 22) (T 23)), o 25 (.fieldAddr 1 (T 24)), o 26 (.load true 3 (T 25)), o 27 (.call 141 [(T 20), (T 26)]), o 28 (.mov (T 7)), o 29 (.bin .rem (T 27) (T 28)), o 30 (.mov (T 7)), o 31 (.bin .add (T 29) (T 30)), o 32 (.mov (T 7)), o 33 (.bin .rem (T 31) (T 32)), o 6 (.mov (T 33))]),
    .ret])
theorem ok148 : cfn Tryz.prog Tryz.f148 3 = some (s148, [.tmp 6]) := by kernel_rfl

/-! 150 impl.isVar -/
def s150 : SCode :=
  (sqs [
    (.reg [o 2 (.mov (B false))]),
    (.reg [o 3 (.mov (T 0)), o 4 (.call 114 [(T 3), (I 0), (I 7)]), o 2 (.mov (T 4))]),
    .ret])
theorem ok150 : cfn Tryz.prog Tryz.f150 1 = some (s150, [.tmp 2]) := by kernel_rfl

/-! 160 impl.ExprOk -/
def s160 : SCode :=
  (sqs [
    (.reg [o 1 (.box 3 (T 0)), o 2 (.mov (B false))]),
    (.reg [o 3 (.fieldAddr 0 (T 1)), o 4 (.load false 1 (T 3)), o 5 (.call 114 [(T 4), (I 1), (I 7)]), o 6 (.mov (T 5)), og 7 (.fieldAddr 1 (T 1)) 6 true, og 8 (.load false 1 (T 7)) 6 true, og 9 (.call 200 [(T 8)]) 6 true, o 10 (.pick (T 6) (T 9) (B false)), o 11 (.mov (T 10)), og 12 (.fieldAddr 2 (T 1)) 11 true, og 13 (.load false 1 (T 12)) 11 true, og 14 (.call 200 [(T 13)]) 11 true, o 15 (.pick (T 11) (T 14) (B false)), o 2 (.mov (T 15))]),
    .ret])
theorem ok160 : cfn Tryz.prog Tryz.f160 1 = some (s160, [.tmp 2]) := by kernel_rfl

/-! 161 impl.endOf -/
def s161 : SCode :=
  (sqs [
    (.reg [o 4 (.mov (I 0))]),
    (.reg [o 5 (.mov (I 0))]),
    (sqs [
      (.reg [o 7 (.mov (T 1)), o 6 (.mov (T 7))]),
      (.block 0
        (.loop
          (sqs [
            (sqs [
              (.reg [o 8 (.mov (T 6)), o 9 (.mov (T 0)), o 10 (.len (T 9)), o 11 (.bin .lss (T 8) (T 10))]),
              (.cond (T 11)
                .skip
                (.exit 0))]),
            (.block 1
              (sqs [
                (sqs [
                  (.reg [o 14 (.mov (T 0)), o 15 (.mov (T 6)), o 16 (.idxAddr 6 (T 14) (T 15)), o 17 (.fieldAddr 0 (T 16)), o 18 (.load false 1 (T 17)), o 19 (.call 134 [(T 18)])]),
                  (.cond (T 19)
                    (.reg [o 20 (.mov (T 5)), o 21 (.bin .add (T 20) (I 1)), o 5 (.mov (T 21))])
                    .skip)]),
                (sqs [
                  (.reg [o 22 (.mov (T 0)), o 23 (.mov (T 6)), o 24 (.idxAddr 6 (T 22) (T 23)), o 25 (.fieldAddr 0 (T 24)), o 26 (.load false 1 (T 25)), o 27 (.bin .eql (T 26) (I 6))]),
                  (.cond (T 27)
                    (.reg [o 28 (.mov (T 5)), o 29 (.bin .sub (T 28) (I 1)), o 5 (.mov (T 29))])
                    .skip)]),
                (.reg [o 30 (.mov (T 5)), o 31 (.bin .eql (T 30) (I 0))]),
                (.cond (T 31)
                  (sqs [
                    (.reg [o 32 (.mov (T 6)), o 4 (.mov (T 32))]),
                    .ret])
                  .skip)])),
            (.reg [o 12 (.mov (T 6)), o 13 (.bin .add (T 12) (I 1)), o 6 (.mov (T 13))])])))]),
    (.reg [o 4 (.mov (I (-1)))]),
    .ret])
theorem ok161 : cfn Tryz.prog Tryz.f161 2 = some (s161, [.tmp 4]) := by kernel_rfl

/-! 174 spec.ExprOk -/
def s174 : SCode :=
  (sqs [
    (.reg [o 1 (.box 3 (T 0)), o 2 (.mov (B false))]),
    (.reg [o 3 (.fieldAddr 0 (T 1)), o 4 (.load false 1 (T 3)), o 5 (.call 99 [(T 4), (I 1), (I 7)]), o 6 (.mov (T 5)), og 7 (.fieldAddr 1 (T 1)) 6 true, og 8 (.load false 1 (T 7)) 6 true, og 9 (.call 216 [(T 8)]) 6 true, o 10 (.pick (T 6) (T 9) (B false)), o 11 (.mov (T 10)), og 12 (.fieldAddr 2 (T 1)) 11 true, og 13 (.load false 1 (T 12)) 11 true, og 14 (.call 216 [(T 13)]) 11 true, o 15 (.pick (T 11) (T 14) (B false)), o 2 (.mov (T 15))]),
    .ret])
theorem ok174 : cfn Tryz.prog Tryz.f174 1 = some (s174, [.tmp 2]) := by kernel_rfl

/-! 179 slices.IndexFunc[[]int,int] -/
def s179 : SCode :=
  (sqs [
    (.reg [o 4 (.mov (I 0))]),
    (sqs [
      (.reg [o 6 (.mov (T 0)), o 7 (.len (T 6)), o 8 (.mov (I 0))]),
      (.block 0
        (.loop
          (sqs [
            (.reg [o 9 (.bin .lss (T 8) (T 7))]),
            (.cond (T 9)
              .skip
              (.exit 0)),
            (.block 1
              (sqs [
                (.reg [o 10 (.mov (T 8)), o 5 (.mov (T 10))]),
                (.reg [o 11 (.mov (T 1)), o 12 (.mov (T 0)), o 13 (.mov (T 5)), o 14 (.idxAddr 1 (T 12) (T 13)), o 15 (.load false 1 (T 14)), o 16 (.callv (T 11) [(T 15)])]),
                (.cond (T 16)
                  (sqs [
                    (.reg [o 17 (.mov (T 5)), o 4 (.mov (T 17))]),
                    .ret])
                  .skip)])),
            (.reg [o 18 (.bin .add (T 8) (I 1)), o 8 (.mov (T 18))])])))]),
    (.reg [o 4 (.mov (I (-1)))]),
    .ret])
theorem ok179 : cfn Tryz.prog Tryz.f179 2 = some (s179, [.tmp 4]) := by kernel_rfl

/-! 185 spec.l05Block -/
def s185 : SCode :=
  (sqs [
    (.reg [o 6 (.mov N)]),
    (.reg [o 10 (.lit 0 6 [(.int .i64 0), (.int .i64 0), (.int .i64 0), (.int .i64 0), (.int .i64 0), (.int .i64 0)] []), o 7 (.mov (T 10))]),
    (sqs [
      (.reg [o 8 (.mov (I 0))]),
      (.block 0
        (.loop
          (sqs [
            (sqs [
              (.reg [o 11 (.mov (T 8)), o 12 (.mov (T 1)), o 13 (.bin .lss (T 11) (T 12))]),
              (.cond (T 13)
                .skip
                (.exit 0))]),
            (.block 1
              (sqs [
                (sqs [
                  (.reg [o 16 (.mov (T 2)), o 17 (.bin .lss (T 16) (I 2)), o 18 (.mov (T 17)), og 19 (.mov (T 7)) 18 true, og 20 (.len (T 19)) 18 true, og 21 (.bin .lss (T 20) (I 6)) 18 true, o 22 (.pick (T 18) (T 21) (B false)), o 23 (.mov (T 22)), og 24 (.mov (T 0)) 23 true, og 25 (.call 229 [(T 24), (I 5)]) 23 true, o 26 (.pick (T 23) (T 25) (B false))]),
                  (.cond (T 26)
                    (sqs [
                      (.reg [o 27 (.mov (T 0)), o 28 (.call 74 [(T 27), (I 3)]), o 29 (.bin .add (I 1) (T 28)), o 30 (.build [(.int .i64 0), (.int .i64 0), (.int .i64 0), (.int .i64 0), (.int .i64 0), (.int .i64 0)] [(0, 1, (I 5)), (2, 1, (T 29))]), o 9 (.hole 6), o 9 (.birth 6 (T 9) (T 30))]),
                      (sqs [
                        (.reg [o 31 (.mov (T 0)), o 32 (.call 229 [(T 31), (I 2)])]),
                        (.cond (T 32)
                          (.reg [o 33 (.mov (T 0)), o 34 (.call 127 [(T 33)]), o 35 (.build [(.int .i64 0), (.int .i64 0), (.int .i64 0), (.int .i64 0), (.int .i64 0), (.int .i64 0)] [(0, 1, (I 4)), (3, 3, (T 34))]), on_ (.store 6 (T 9) (T 35))])
                          .skip)]),
                      (.reg [o 36 (.mov (T 7)), o 37 (.load true 6 (T 9)), o 38 (.lit 1 6 [(.int .i64 0), (.int .i64 0), (.int .i64 0), (.int .i64 0), (.int .i64 0), (.int .i64 0)] [(0, (T 37))]), o 39 (.append 6 48 (T 36) (T 38)), o 7 (.mov (T 39))]),
                      (.reg [o 40 (.mov (T 7)), o 41 (.mov (T 0)), o 42 (.mov (T 0)), o 43 (.call 74 [(T 42), (I 2)]), o 44 (.bin .add (I 1) (T 43)), o 45 (.mov (T 2)), o 46 (.bin .add (T 45) (I 1)), o 47 (.call 185 [(T 41), (T 44), (T 46)]), o 48 (.append 6 48 (T 40) (T 47)), o 7 (.mov (T 48))]),
                      (.reg [o 49 (.mov (T 7)), o 50 (.build [(.int .i64 0), (.int .i64 0), (.int .i64 0), (.int .i64 0), (.int .i64 0), (.int .i64 0)] [(0, 1, (I 6))]), o 51 (.lit 1 6 [(.int .i64 0), (.int .i64 0), (.int .i64 0), (.int .i64 0), (.int .i64 0), (.int .i64 0)] [(0, (T 50))]), o 52 (.append 6 48 (T 49) (T 51)), o 7 (.mov (T 52))]),
                      (.exit 1)])
                    .skip)]),
                (.reg [o 53 (.mov (T 7)), o 54 (.mov (T 0)), o 55 (.call 230 [(T 54)]), o 56 (.lit 1 6 [(.int .i64 0), (.int .i64 0), (.int .i64 0), (.int .i64 0), (.int .i64 0), (.int .i64 0)] [(0, (T 55))]), o 57 (.append 6 48 (T 53) (T 56)), o 7 (.mov (T 57))])])),
            (.reg [o 14 (.mov (T 8)), o 15 (.bin .add (T 14) (I 1)), o 8 (.mov (T 15))])])))]),
    (.reg [o 58 (.mov (T 7)), o 6 (.mov (T 58))]),
    .ret])
theorem ok185 : cfn Tryz.prog Tryz.f185 3 = some (s185, [.tmp 6]) := by kernel_rfl

/-! 186 spec.l03Operand -/
def s186 : SCode :=
  (sqs [
    (.reg [o 2 (.mov (I 0))]),
    (sqs [
      (.reg [o 3 (.mov (T 0)), o 4 (.call 229 [(T 3), (I 2)])]),
      (.cond (T 4)
        (sqs [
          (.reg [o 5 (.mov (T 0)), o 6 (.call 74 [(T 5), (I 5)]), o 7 (.bin .sub (I (-1)) (T 6)), o 2 (.mov (T 7))]),
          .ret])
        .skip)]),
    (.reg [o 8 (.mov (T 0)), o 9 (.lit 6 1 [(.int .i64 0)] [(0, (I 0)), (1, (I 1)), (2, (I 2)), (3, (I 3)), (4, (I 10)), (5, (I 999))]), o 10 (.call 129 [(T 8), (T 9)]), o 2 (.mov (T 10))]),
    .ret])
theorem ok186 : cfn Tryz.prog Tryz.f186 1 = some (s186, [.tmp 2]) := by kernel_rfl

/-! 190 impl.hasVar -/
def s190 : SCode :=
  (sqs [
    (.reg [o 2 (.mov (B false))]),
    (.reg [o 3 (.mov (T 0)), o 4 (.bin .eql (T 3) (I 1)), o 5 (.mov (T 4)), og 6 (.mov (T 0)) 5 false, og 7 (.bin .eql (T 6) (I 2)) 5 false, o 8 (.pick (T 5) (B true) (T 7)), o 2 (.mov (T 8))]),
    .ret])
theorem ok190 : cfn Tryz.prog Tryz.f190 1 = some (s190, [.tmp 2]) := by kernel_rfl

/-! 191 impl.hasExpr -/
def s191 : SCode :=
  (sqs [
    (.reg [o 2 (.mov (B false))]),
    (.reg [o 3 (.mov (T 0)), o 4 (.bin .eql (T 3) (I 1)), o 5 (.mov (T 4)), og 6 (.mov (T 0)) 5 false, og 7 (.bin .eql (T 6) (I 3)) 5 false, o 8 (.pick (T 5) (B true) (T 7)), o 9 (.mov (T 8)), og 10 (.mov (T 0)) 9 false, og 11 (.bin .eql (T 10) (I 4)) 9 false, o 12 (.pick (T 9) (B true) (T 11)), o 2 (.mov (T 12))]),
    .ret])
theorem ok191 : cfn Tryz.prog Tryz.f191 1 = some (s191, [.tmp 2]) := by kernel_rfl

/-! 192 impl.isSensor -/
def s192 : SCode :=
  (sqs [
    (.reg [o 2 (.mov (B false))]),
    (.reg [o 3 (.mov (T 0)), o 4 (.call 114 [(T 3), (I 0), (I 3)]), o 2 (.mov (T 4))]),
    .ret])
theorem ok192 : cfn Tryz.prog Tryz.f192 1 = some (s192, [.tmp 2]) := by kernel_rfl

/-! 193 spec.l04Plain -/
def s193 : SCode :=
  (sqs [
    (.reg [o 1 (.box 6 (T 0)), o 2 (.zero [(.int .i64 0), (.int .i64 0), (.int .i64 0), (.int .i64 0), (.int .i64 0), (.int .i64 0)])]),
    (.reg [o 4 (.fieldAddr 0 (T 1)), o 5 (.load false 1 (T 4)), o 6 (.build [(.int .i64 0), (.int .i64 0), (.int .i64 0), (.int .i64 0), (.int .i64 0), (.int .i64 0)] [(0, 1, (T 5))]), o 3 (.hole 6), o 3 (.birth 6 (T 3) (T 6))]),
    (sqs [
      (.reg [o 7 (.fieldAddr 0 (T 1)), o 8 (.load false 1 (T 7))]),
      (.block 0
        (sqs [
          (.reg [o 10 (.bin .eql (T 8) (I 1)), o 9 (.mov (T 10))]),
          (.cond (T 9)
            (sqs [
              (.reg [o 11 (.fieldAddr 1 (T 1)), o 12 (.load false 1 (T 11)), o 13 (.fieldAddr 1 (T 3)), on_ (.store 1 (T 13) (T 12))]),
              (.reg [o 14 (.fieldAddr 3 (T 1)), o 15 (.load true 3 (T 14)), o 16 (.fieldAddr 3 (T 3)), on_ (.store 3 (T 16) (T 15))])])
            (sqs [
              (.reg [o 18 (.bin .eql (T 8) (I 2)), o 17 (.mov (T 18))]),
              (.cond (T 17)
                (sqs [
                  (.reg [o 19 (.fieldAddr 1 (T 1)), o 20 (.load false 1 (T 19)), o 21 (.fieldAddr 1 (T 3)), on_ (.store 1 (T 21) (T 20))]),
                  (.reg [o 22 (.fieldAddr 2 (T 1)), o 23 (.load false 1 (T 22)), o 24 (.fieldAddr 2 (T 3)), on_ (.store 1 (T 24) (T 23))])])
                (sqs [
                  (sqs [
                    (.reg [o 26 (.bin .eql (T 8) (I 3)), o 25 (.mov (T 26))]),
                    (.cond (T 25)
                      .skip
                      (.reg [o 27 (.bin .eql (T 8) (I 4)), o 25 (.mov (T 27))]))]),
                  (.cond (T 25)
                    (.reg [o 28 (.fieldAddr 3 (T 1)), o 29 (.load true 3 (T 28)), o 30 (.fieldAddr 3 (T 3)), on_ (.store 3 (T 30) (T 29))])
                    (sqs [
                      (.reg [o 32 (.bin .eql (T 8) (I 5)), o 31 (.mov (T 32))]),
                      (.cond (T 31)
                        (.reg [o 33 (.fieldAddr 2 (T 1)), o 34 (.load false 1 (T 33)), o 35 (.fieldAddr 2 (T 3)), on_ (.store 1 (T 35) (T 34))])
                        .skip)]))]))]))]))]),
    (.reg [o 36 (.load true 6 (T 3)), on_ (.store 6 (T 2) (T 36))]),
    .ret])
theorem ok193 : cfn Tryz.prog Tryz.f193 1 = some (s193, [.cell 2 true 6]) := by kernel_rfl

/-! 195 slices.Compact[[]int,int] -/
def s195 : SCode :=
  (sqs [
    (.reg [o 2 (.mov N)]),
    (sqs [
      (.reg [o 6 (.mov (T 0)), o 7 (.len (T 6)), o 8 (.bin .lss (T 7) (I 2))]),
      (.cond (T 8)
        (sqs [
          (.reg [o 9 (.mov (T 0)), o 2 (.mov (T 9))]),
          .ret])
        .skip)]),
    (sqs [
      (.reg [o 3 (.mov (I 1))]),
      (.block 0
        (.loop
          (sqs [
            (sqs [
              (.reg [o 10 (.mov (T 3)), o 11 (.mov (T 0)), o 12 (.len (T 11)), o 13 (.bin .lss (T 10) (T 12))]),
              (.cond (T 13)
                .skip
                (.exit 0))]),
            (.block 1
              (sqs [
                (.regD [o 16 (.mov (T 0)), o 17 (.mov (T 3)), o 18 (.idxAddr 1 (T 16) (T 17)), ⟨some 19, (.load false 1 (T 18)), none, 3, []⟩, o 20 (.mov (T 0)), o 21 (.mov (T 3)), o 22 (.bin .sub (T 21) (I 1)), o 23 (.idxAddr 1 (T 20) (T 22)), ⟨some 24, (.load false 1 (T 23)), none, 8, []⟩, o 25 (.bin .eql (T 19) (T 24))]),
                (.cond (T 25)
                  (sqs [
                    (.reg [o 26 (.mov (T 0)), o 27 (.mov (T 3)), o 28 (.slice 1 (T 26) (some (T 27)) none), o 4 (.mov (T 28))]),
                    (sqs [
                      (.reg [o 5 (.mov (I 1))]),
                      (.block 2
                        (.loop
                          (sqs [
                            (sqs [
                              (.reg [o 29 (.mov (T 5)), o 30 (.mov (T 4)), o 31 (.len (T 30)), o 32 (.bin .lss (T 29) (T 31))]),
                              (.cond (T 32)
                                .skip
                                (.exit 2))]),
                            (.block 3
                              (sqs [
                                (.regD [o 35 (.mov (T 4)), o 36 (.mov (T 5)), o 37 (.idxAddr 1 (T 35) (T 36)), ⟨some 38, (.load false 1 (T 37)), none, 3, []⟩, o 39 (.mov (T 4)), o 40 (.mov (T 5)), o 41 (.bin .sub (T 40) (I 1)), o 42 (.idxAddr 1 (T 39) (T 41)), ⟨some 43, (.load false 1 (T 42)), none, 8, []⟩, o 44 (.bin .neq (T 38) (T 43))]),
                                (.cond (T 44)
                                  (sqs [
                                    (.reg [o 45 (.mov (T 0)), o 46 (.mov (T 3)), o 47 (.mov (T 4)), o 48 (.mov (T 5)), o 49 (.idxAddr 1 (T 47) (T 48)), o 50 (.load false 1 (T 49)), o 51 (.idxAddr 1 (T 45) (T 46)), on_ (.store 1 (T 51) (T 50))]),
                                    (.reg [o 52 (.mov (T 3)), o 53 (.bin .add (T 52) (I 1)), o 3 (.mov (T 53))])])
                                  .skip)])),
                            (.reg [o 33 (.mov (T 5)), o 34 (.bin .add (T 33) (I 1)), o 5 (.mov (T 34))])])))]),
                    (.reg [o 54 (.mov (T 0)), o 55 (.mov (T 3)), o 56 (.slice 1 (T 54) (some (T 55)) none), on_ (.clear 1 [(.int .i64 0)] (T 56))]),
                    (.reg [o 57 (.mov (T 0)), o 58 (.mov (T 3)), o 59 (.slice 1 (T 57) none (some (T 58))), o 2 (.mov (T 59))]),
                    .ret])
                  .skip)])),
            (.reg [o 14 (.mov (T 3)), o 15 (.bin .add (T 14) (I 1)), o 3 (.mov (T 15))])])))]),
    (.reg [o 60 (.mov (T 0)), o 2 (.mov (T 60))]),
    .ret])
theorem ok195 : cfn Tryz.prog Tryz.f195 1 = some (s195, [.tmp 2]) := by kernel_rfl

/-! 196 impl.operand -/
def s196 : SCode :=
  (sqs [
    (.reg [o 4 (.mov (I 0))]),
    (sqs [
      (.reg [o 5 (.mov (T 1)), o 6 (.bin .lss (T 5) (I 0))]),
      (.cond (T 6)
        (sqs [
          (.reg [o 7 (.mov (T 0)), o 8 (.mov (T 1)), o 9 (.bin .sub (I (-1)) (T 8)), o 10 (.idxAddr 1 (T 7) (T 9)), o 11 (.load false 1 (T 10)), o 4 (.mov (T 11))]),
          .ret])
        .skip)]),
    (.reg [o 12 (.mov (T 1)), o 4 (.mov (T 12))]),
    .ret])
theorem ok196 : cfn Tryz.prog Tryz.f196 2 = some (s196, [.tmp 4]) := by kernel_rfl

/-! 197 impl.AddValues -/
def s197 : SCode :=
  (sqs [
    (.reg [o 4 (.mov (I 0))]),
    (.reg [o 5 (.mov (T 0)), o 6 (.call 237 [(T 5)]), o 7 (.mov (T 1)), o 8 (.call 237 [(T 7)]), o 9 (.bin .add (T 6) (T 8)), o 10 (.call 237 [(T 9)]), o 4 (.mov (T 10))]),
    .ret])
theorem ok197 : cfn Tryz.prog Tryz.f197 2 = some (s197, [.tmp 4]) := by kernel_rfl

/-! 198 impl.SubValues -/
def s198 : SCode :=
  (sqs [
    (.reg [o 4 (.mov (I 0))]),
    (.reg [o 5 (.mov (T 0)), o 6 (.call 237 [(T 5)]), o 7 (.mov (T 1)), o 8 (.call 237 [(T 7)]), o 9 (.bin .sub (T 6) (T 8)), o 10 (.call 237 [(T 9)]), o 4 (.mov (T 10))]),
    .ret])
theorem ok198 : cfn Tryz.prog Tryz.f198 2 = some (s198, [.tmp 4]) := by kernel_rfl

/-! 199 impl.MulValues -/
def s199 : SCode :=
  (sqs [
    (.reg [o 4 (.mov (I 0))]),
    (.reg [o 5 (.mov (T 0)), o 6 (.call 237 [(T 5)]), o 7 (.mov (T 1)), o 8 (.call 237 [(T 7)]), o 9 (.bin .mul (T 6) (T 8)), o 10 (.call 237 [(T 9)]), o 4 (.mov (T 10))]),
    .ret])
theorem ok199 : cfn Tryz.prog Tryz.f199 2 = some (s199, [.tmp 4]) := by kernel_rfl

/-! 200 impl.OperandOk -/
def s200 : SCode :=
  (sqs [
    (.reg [o 2 (.mov (B false))]),
    (.reg [o 3 (.mov (T 0)), o 4 (.call 114 [(T 3), (I (-8)), (I 999)]), o 2 (.mov (T 4))]),
    .ret])
theorem ok200 : cfn Tryz.prog Tryz.f200 1 = some (s200, [.tmp 2]) := by kernel_rfl

/-! 216 spec.OperandOk -/
def s216 : SCode :=
  (sqs [
    (.reg [o 2 (.mov (B false))]),
    (.reg [o 3 (.mov (T 0)), o 4 (.call 99 [(T 3), (I (-8)), (I 999)]), o 2 (.mov (T 4))]),
    .ret])
theorem ok216 : cfn Tryz.prog Tryz.f216 1 = some (s216, [.tmp 2]) := by kernel_rfl

/-! 229 spec.l01Once -/
def s229 : SCode :=
  (sqs [
    (.reg [o 4 (.mov (B false))]),
    (.reg [o 5 (.mov (T 0)), o 6 (.mov (T 1)), o 7 (.call 74 [(T 5), (T 6)]), o 8 (.bin .eql (T 7) (I 0)), o 4 (.mov (T 8))]),
    .ret])
theorem ok229 : cfn Tryz.prog Tryz.f229 2 = some (s229, [.tmp 4]) := by kernel_rfl

/-! 230 spec.l04Stmt -/
def s230 : SCode :=
  (sqs [
    (.reg [o 2 (.zero [(.int .i64 0), (.int .i64 0), (.int .i64 0), (.int .i64 0), (.int .i64 0), (.int .i64 0)])]),
    (sqs [
      (.reg [o 3 (.mov (T 0)), o 4 (.call 74 [(T 3), (I 7)])]),
      (.block 0
        (sqs [
          (sqs [
            (.reg [o 6 (.bin .eql (T 4) (I 0)), o 5 (.mov (T 6))]),
            (.cond (T 5)
              .skip
              (.reg [o 7 (.bin .eql (T 4) (I 1)), o 5 (.mov (T 7))]))]),
          (.cond (T 5)
            (sqs [
              (.reg [o 8 (.mov (T 0)), o 9 (.call 74 [(T 8), (I 5)]), o 10 (.mov (T 0)), o 11 (.call 74 [(T 10), (I 4)]), o 12 (.build [(.int .i64 0), (.int .i64 0), (.int .i64 0), (.int .i64 0), (.int .i64 0), (.int .i64 0)] [(0, 1, (I 2)), (1, 1, (T 9)), (2, 1, (T 11))]), on_ (.store 6 (T 2) (T 12))]),
              .ret])
            (sqs [
              (.reg [o 14 (.bin .eql (T 4) (I 2)), o 13 (.mov (T 14))]),
              (.cond (T 13)
                (sqs [
                  (.reg [o 15 (.mov (T 0)), o 16 (.call 127 [(T 15)]), o 17 (.build [(.int .i64 0), (.int .i64 0), (.int .i64 0), (.int .i64 0), (.int .i64 0), (.int .i64 0)] [(0, 1, (I 3)), (3, 3, (T 16))]), on_ (.store 6 (T 2) (T 17))]),
                  .ret])
                .skip)]))]))]),
    (.reg [o 18 (.mov (T 0)), o 19 (.call 74 [(T 18), (I 5)]), o 20 (.mov (T 0)), o 21 (.call 127 [(T 20)]), o 22 (.build [(.int .i64 0), (.int .i64 0), (.int .i64 0), (.int .i64 0), (.int .i64 0), (.int .i64 0)] [(0, 1, (I 1)), (1, 1, (T 19)), (3, 3, (T 21))]), on_ (.store 6 (T 2) (T 22))]),
    .ret])
theorem ok230 : cfn Tryz.prog Tryz.f230 1 = some (s230, [.cell 2 true 6]) := by kernel_rfl

/-! 234 impl.Clamp -/
def s234 : SCode :=
  (sqs [
    (.reg [o 6 (.mov (I 0))]),
    (sqs [
      (.reg [o 7 (.mov (T 2)), o 8 (.mov (T 1)), o 9 (.bin .lss (T 7) (T 8))]),
      (.cond (T 9)
        (sqs [
          (.reg [o 10 (.mov (T 1)), o 6 (.mov (T 10))]),
          .ret])
        .skip)]),
    (.reg [o 11 (.mov (T 0)), o 12 (.mov (T 1)), o 13 (.max (T 11) (T 12)), o 14 (.mov (T 2)), o 15 (.min (T 13) (T 14)), o 6 (.mov (T 15))]),
    .ret])
theorem ok234 : cfn Tryz.prog Tryz.f234 3 = some (s234, [.tmp 6]) := by kernel_rfl

/-! 237 impl.Saturate -/
def s237 : SCode :=
  (sqs [
    (.reg [o 2 (.mov (I 0))]),
    (.reg [o 3 (.mov (T 0)), o 4 (.call 234 [(T 3), (I (-1000000)), (I 1000000)]), o 2 (.mov (T 4))]),
    .ret])
theorem ok237 : cfn Tryz.prog Tryz.f237 1 = some (s237, [.tmp 2]) := by kernel_rfl

end Go.Av

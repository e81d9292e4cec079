import Derived.Test.YtjfmbdigfnablaaGreatAv23
import Derived.Test.YtjfmbdigfnablaaGreatZCode1FnExactCertifiedRun
import Derived.Test.YtjfmbdigfnablaaGreatProg
namespace Go.Av
open Go.Proofs
set_option maxRecDepth 1000000
/-! 141 impl.EvalExpr -/
def s141 : SCode :=
  (sqs [
    (.reg [o 3 (.box 3 (T 1)), o 4 (.mov (I 0))]),
    (sqs [
      (.reg [o 7 (.mov (T 0)), o 8 (.call 84 [(T 7)]), o 9 (.not (T 8)), o 10 (.mov (T 9)), og 11 (.load true 3 (T 3)) 10 false, og 12 (.call 160 [(T 11)]) 10 false, og 13 (.not (T 12)) 10 false, o 14 (.pick (T 10) (B true) (T 13))]),
      (.cond (T 14)
        (sqs [
          (.reg [o 4 (.mov (I 0))]),
          .ret])
        .skip)]),
    (.regD [o 15 (.mov (T 0)), o 16 (.fieldAddr 1 (T 3)), ⟨some 17, (.load false 1 (T 16)), none, 2, []⟩, o 19 (.mov (T 0)), o 20 (.fieldAddr 2 (T 3)), ⟨some 21, (.load false 1 (T 20)), none, 6, []⟩, ⟨some 18, (.call 196 [(T 15), (T 17)]), none, 0, [6]⟩, o 22 (.call 196 [(T 19), (T 21)]), o 5 (.mov (T 18)), o 6 (.mov (T 22))]),
    (sqs [
      (.reg [o 23 (.fieldAddr 0 (T 3)), o 24 (.load false 1 (T 23))]),
      (.block 0
        (sqs [
          (.reg [o 26 (.bin .eql (T 24) (I 1)), o 25 (.mov (T 26))]),
          (.cond (T 25)
            (sqs [
              (.reg [o 27 (.mov (T 5)), o 28 (.mov (T 6)), o 29 (.call 197 [(T 27), (T 28)]), o 4 (.mov (T 29))]),
              .ret])
            (sqs [
              (.reg [o 31 (.bin .eql (T 24) (I 2)), o 30 (.mov (T 31))]),
              (.cond (T 30)
                (sqs [
                  (.reg [o 32 (.mov (T 5)), o 33 (.mov (T 6)), o 34 (.call 198 [(T 32), (T 33)]), o 4 (.mov (T 34))]),
                  .ret])
                (sqs [
                  (.reg [o 36 (.bin .eql (T 24) (I 3)), o 35 (.mov (T 36))]),
                  (.cond (T 35)
                    (sqs [
                      (.reg [o 37 (.mov (T 5)), o 38 (.mov (T 6)), o 39 (.call 199 [(T 37), (T 38)]), o 4 (.mov (T 39))]),
                      .ret])
                    (sqs [
                      (.reg [o 41 (.bin .eql (T 24) (I 4)), o 40 (.mov (T 41))]),
                      (.cond (T 40)
                        (sqs [
                          (.reg [o 42 (.mov (T 5)), o 43 (.mov (T 6)), o 44 (.min (T 42) (T 43)), o 4 (.mov (T 44))]),
                          .ret])
                        (sqs [
                          (.reg [o 46 (.bin .eql (T 24) (I 5)), o 45 (.mov (T 46))]),
                          (.cond (T 45)
                            (sqs [
                              (.reg [o 47 (.mov (T 5)), o 48 (.mov (T 6)), o 49 (.max (T 47) (T 48)), o 4 (.mov (T 49))]),
                              .ret])
                            (sqs [
                              (.reg [o 51 (.bin .eql (T 24) (I 6)), o 50 (.mov (T 51))]),
                              (.cond (T 50)
                                (sqs [
                                  (.reg [o 52 (.mov (T 5)), o 53 (.mov (T 6)), o 54 (.bin .lss (T 52) (T 53)), o 55 (.call 71 [(T 54)]), o 4 (.mov (T 55))]),
                                  .ret])
                                .skip)]))]))]))]))]))]))]),
    (.reg [o 56 (.mov (T 5)), o 57 (.mov (T 6)), o 58 (.bin .eql (T 56) (T 57)), o 59 (.call 71 [(T 58)]), o 4 (.mov (T 59))]),
    .ret])
theorem ok141 : cfn Tryz.prog Tryz.f141 2 = some (s141, [.tmp 4]) := by kernel_rfl

/-! 144 impl.areValues$1 -/
def s144 : SCode :=
  (sqs [
    (.reg [o 2 (.mov (B false))]),
    (.reg [o 3 (.mov (T 0)), o 4 (.call 145 [(T 3)]), o 5 (.not (T 4)), o 2 (.mov (T 5))]),
    .ret])
theorem ok144 : cfn Tryz.prog Tryz.f144 1 = some (s144, [.tmp 2]) := by kernel_rfl

/-! 145 impl.IsValue -/
def s145 : SCode :=
  (sqs [
    (.reg [o 2 (.mov (B false))]),
    (.reg [o 3 (.mov (T 0)), o 4 (.call 114 [(T 3), (I (-1000000)), (I 1000000)]), o 2 (.mov (T 4))]),
    .ret])
theorem ok145 : cfn Tryz.prog Tryz.f145 1 = some (s145, [.tmp 2]) := by kernel_rfl

/-! 146 impl.walk -/
def s146 : SCode :=
  (sqs [
    (.reg [o 4 (.mov (I 0))]),
    (.block 0
      (.loop
        (sqs [
          (sqs [
            (.reg [o 9 (.mov (T 4)), o 10 (.mov (T 0)), o 11 (.len (T 10)), o 12 (.bin .lss (T 9) (T 11))]),
            (.cond (T 12)
              .skip
              (.exit 0))]),
          (.block 1
            (sqs [
              (.reg [o 15 (.mov (T 0)), o 16 (.mov (T 4)), o 17 (.idxAddr 6 (T 15) (T 16)), o 18 (.load true 6 (T 17)), o 5 (.hole 6), o 5 (.birth 6 (T 5) (T 18))]),
              (sqs [
                (.reg [o 19 (.fieldAddr 0 (T 5)), o 20 (.load false 1 (T 19)), o 21 (.bin .eql (T 20) (I 6))]),
                (.cond (T 21)
                  (.exit 1)
                  .skip)]),
              (.reg [o 22 (.mov (T 1)), o 23 (.load true 6 (T 5)), o 24 (.callv (T 22) [(T 23)]), o 6 (.mov (T 24))]),
              (sqs [
                (.reg [o 25 (.fieldAddr 0 (T 5)), o 26 (.load false 1 (T 25)), o 27 (.call 134 [(T 26)]), o 28 (.not (T 27))]),
                (.cond (T 28)
                  (.exit 1)
                  .skip)]),
              (.reg [o 29 (.mov (T 0)), o 30 (.mov (T 4)), o 31 (.call 161 [(T 29), (T 30)]), o 7 (.mov (T 31))]),
              (.reg [o 32 (.fieldAddr 2 (T 5)), o 33 (.load false 1 (T 32)), o 8 (.mov (T 33))]),
              (sqs [
                (.reg [o 34 (.fieldAddr 0 (T 5)), o 35 (.load false 1 (T 34)), o 36 (.bin .eql (T 35) (I 4))]),
                (.cond (T 36)
                  (.reg [o 37 (.mov (T 6)), o 38 (.call 71 [(T 37)]), o 8 (.mov (T 38))])
                  .skip)]),
              (sqs [
                (.reg [o 39 (.mov (T 8)), o 40 (.mov (I 0))]),
                (.block 2
                  (.loop
                    (sqs [
                      (.reg [o 41 (.bin .lss (T 40) (T 39))]),
                      (.cond (T 41)
                        .skip
                        (.exit 2)),
                      (.block 3
                        (.reg [o 42 (.mov (T 0)), o 43 (.mov (T 4)), o 44 (.bin .add (T 43) (I 1)), o 45 (.mov (T 7)), o 46 (.slice 6 (T 42) (some (T 44)) (some (T 45))), o 47 (.mov (T 1)), o 48 (.call 146 [(T 46), (T 47)])])),
                      (.reg [o 49 (.bin .add (T 40) (I 1)), o 40 (.mov (T 49))])])))]),
              (.reg [o 50 (.mov (T 7)), o 4 (.mov (T 50))])])),
          (.reg [o 13 (.mov (T 4)), o 14 (.bin .add (T 13) (I 1)), o 4 (.mov (T 14))])])))])
theorem ok146 : cfn Tryz.prog Tryz.f146 2 = some (s146, []) := by kernel_rfl

/-! 148 impl.NextTask -/
def s148 : SCode :=
  (sqs [
    (.reg [o 3 (.box 1 (T 0)), o 6 (.mov (I 0))]),
    (sqs [
      (.reg [o 8 (.load true 1 (T 3)), o 9 (.mov (T 2)), o 10 (.call 79 [(T 8), (T 9)]), o 11 (.not (T 10)), o 12 (.mov (T 11)), og 13 (.mov (T 1)) 12 false, og 14 (.call 84 [(T 13)]) 12 false, og 15 (.not (T 14)) 12 false, o 16 (.pick (T 12) (B true) (T 15))]),
      (.cond (T 16)
        (sqs [
          (.reg [o 6 (.mov (I (-1)))]),
          .ret])
        .skip)]),
    (.reg [o 17 (.fieldAddr 0 (T 3)), o 18 (.load false 1 (T 17)), o 19 (.len (T 18)), o 7 (.mov (T 19))]),
    (.reg [o 20 (.mov (T 1)), o 21 (.fieldAddr 0 (T 3)), o 22 (.load false 1 (T 21)), o 23 (.mov (T 2)), o 24 (.idxAddr 4 (T 22) (T 23)), o 25 (.fieldAddr 1 (T 24)), o 26 (.load true 3 (T 25)), o 27 (.call 141 [(T 20), (T 26)]), o 28 (.mov (T 7)), o 29 (.bin .rem (T 27) (T 28)), o 30 (.mov (T 7)), o 31 (.bin .add (T 29) (T 30)), o 32 (.mov (T 7)), o 33 (.bin .rem (T 31) (T 32)), o 6 (.mov (T 33))]),
    .ret])
theorem ok148 : cfn Tryz.prog Tryz.f148 3 = some (s148, [.tmp 6]) := by kernel_rfl

/-! 149 impl.UnpackControl -/
def s149 : SCode :=
  (sqs [
    (.reg [o 2 (.mov (I 0)), o 3 (.mov (I 0)), o 4 (.mov (I 0))]),
    (.reg [o 8 (.mov (T 0)), o 9 (.bin .rem (T 8) (I 8)), o 10 (.mov (T 0)), o 11 (.bin .quo (T 10) (I 8)), o 12 (.bin .rem (T 11) (I 16)), o 13 (.mov (T 0)), o 14 (.bin .quo (T 13) (I 128)), o 5 (.mov (T 9)), o 6 (.mov (T 12)), o 7 (.mov (T 14))]),
    (sqs [
      (.reg [o 15 (.mov (T 0)), o 16 (.bin .lss (T 15) (I 0)), o 17 (.mov (T 16)), og 18 (.mov (T 5)) 17 false, og 19 (.mov (T 6)) 17 false, og 20 (.mov (T 7)) 17 false, og 21 (.call 159 [(T 18), (T 19), (T 20)]) 17 false, og 22 (.mov (T 0)) 17 false, og 23 (.bin .neq (T 21) (T 22)) 17 false, o 24 (.pick (T 17) (B true) (T 23))]),
      (.cond (T 24)
        (sqs [
          (.reg [o 2 (.mov (I (-1))), o 3 (.mov (I (-1))), o 4 (.mov (I (-1)))]),
          .ret])
        .skip)]),
    (.reg [o 25 (.mov (T 5)), o 26 (.mov (T 6)), o 27 (.mov (T 7)), o 2 (.mov (T 25)), o 3 (.mov (T 26)), o 4 (.mov (T 27))]),
    .ret])
theorem ok149 : cfn Tryz.prog Tryz.f149 1 = some (s149, [.tmp 2, .tmp 3, .tmp 4]) := by kernel_rfl

/-! 150 impl.isVar -/
def s150 : SCode :=
  (sqs [
    (.reg [o 2 (.mov (B false))]),
    (.reg [o 3 (.mov (T 0)), o 4 (.call 114 [(T 3), (I 0), (I 7)]), o 2 (.mov (T 4))]),
    .ret])
theorem ok150 : cfn Tryz.prog Tryz.f150 1 = some (s150, [.tmp 2]) := by kernel_rfl

/-! 151 impl.MemVars -/
def s151 : SCode :=
  (sqs [
    (.reg [o 2 (.mov N)]),
    (sqs [
      (.reg [o 3 (.mov (T 0)), o 4 (.len (T 3)), o 5 (.bin .neq (T 4) (I 49))]),
      (.cond (T 5)
        (sqs [
          (.reg [o 2 (.mov N)]),
          .ret])
        .skip)]),
    (.reg [o 6 (.mov (T 0)), o 7 (.slice 1 (T 6) none (some (I 8))), o 8 (.call 115 [(T 7)]), o 2 (.mov (T 8))]),
    .ret])
theorem ok151 : cfn Tryz.prog Tryz.f151 1 = some (s151, [.tmp 2]) := by kernel_rfl

/-! 152 impl.traceOf$1 -/
def s152 : SCode :=
  (sqs [
    (.reg [o 5 (.box 6 (T 0)), o 6 (.mov (B false))]),
    (.regD [o 8 (.load false 1 (T 1)), ⟨some 9, (.load true 6 (T 5)), none, 1, []⟩, ⟨some 10, (.call 154 [(T 9)]), none, 0, [0]⟩, o 11 (.call 153 [(T 8), (T 10)])]),
    (sqs [
      (.reg [o 12 (.fieldAddr 0 (T 5)), o 13 (.load false 1 (T 12))]),
      (.block 0
        (sqs [
          (.reg [o 15 (.bin .eql (T 13) (I 1)), o 14 (.mov (T 15))]),
          (.cond (T 14)
            (.regD [o 16 (.load false 1 (T 1)), ⟨some 17, (.load false 1 (T 2)), none, 1, []⟩, o 18 (.fieldAddr 1 (T 5)), ⟨some 19, (.load false 1 (T 18)), none, 3, []⟩, ⟨some 20, (.load false 1 (T 1)), none, 4, []⟩, o 21 (.nilchk (T 20)), o 22 (.fieldAddr 14 (T 21)), ⟨some 23, (.load false 1 (T 22)), none, 7, []⟩, o 24 (.fieldAddr 3 (T 5)), ⟨some 25, (.load true 3 (T 24)), none, 9, []⟩, ⟨some 26, (.call 141 [(T 23), (T 25)]), none, 0, [0, 1, 3]⟩, o 27 (.call 155 [(T 16), (T 17), (T 19), (T 26)])])
            (sqs [
              (.reg [o 29 (.bin .eql (T 13) (I 2)), o 28 (.mov (T 29))]),
              (.cond (T 28)
                (sqs [
                  (.regD [o 30 (.load false 1 (T 3)), o 31 (.fieldAddr 2 (T 5)), ⟨some 32, (.load false 1 (T 31)), none, 2, []⟩, ⟨some 33, (.load false 1 (T 4)), none, 3, []⟩, ⟨some 34, (.load false 1 (T 1)), none, 4, []⟩, o 35 (.nilchk (T 34)), o 36 (.fieldAddr 0 (T 35)), o 37 (.fieldAddr 1 (T 36)), ⟨some 38, (.load false 1 (T 37)), none, 8, []⟩, o 39 (.len (T 38)), o 40 (.bin .add (T 33) (T 39)), o 41 (.call 156 [(T 30), (T 32), (T 40)]), o 7 (.mov (T 41))]),
                  (.regD [o 42 (.load false 1 (T 1)), ⟨some 43, (.load false 1 (T 1)), none, 1, []⟩, o 44 (.nilchk (T 43)), o 45 (.fieldAddr 0 (T 44)), o 46 (.fieldAddr 1 (T 45)), ⟨some 47, (.load false 1 (T 46)), none, 5, []⟩, o 48 (.mov (T 7)), ⟨some 49, (.lit 1 1 [(.int .i64 0)] [(0, (T 48))]), none, 0, [0, 1, 5]⟩, ⟨some 50, (.append 1 8 (T 47) (T 49)), none, 0, [0]⟩, o 51 (.nilchk (T 42)), o 52 (.fieldAddr 0 (T 51)), o 53 (.fieldAddr 1 (T 52)), on_ (.store 1 (T 53) (T 50))]),
                  (.reg [o 54 (.load false 1 (T 1)), o 55 (.load false 1 (T 2)), o 56 (.fieldAddr 1 (T 5)), o 57 (.load false 1 (T 56)), o 58 (.mov (T 7)), o 59 (.call 155 [(T 54), (T 55), (T 57), (T 58)])])])
                (sqs [
                  (.reg [o 61 (.bin .eql (T 13) (I 3)), o 60 (.mov (T 61))]),
                  (.cond (T 60)
                    (.regD [o 62 (.load false 1 (T 1)), ⟨some 63, (.load false 1 (T 1)), none, 1, []⟩, o 64 (.nilchk (T 63)), o 65 (.fieldAddr 14 (T 64)), ⟨some 66, (.load false 1 (T 65)), none, 4, []⟩, o 67 (.fieldAddr 3 (T 5)), ⟨some 68, (.load true 3 (T 67)), none, 6, []⟩, ⟨some 69, (.call 141 [(T 66), (T 68)]), none, 0, [0]⟩, o 70 (.call 157 [(T 62), (T 69)])])
                    (sqs [
                      (.reg [o 72 (.bin .eql (T 13) (I 4)), o 71 (.mov (T 72))]),
                      (.cond (T 71)
                        (sqs [
                          (.regD [o 73 (.load false 1 (T 1)), o 74 (.nilchk (T 73)), o 75 (.fieldAddr 14 (T 74)), ⟨some 76, (.load false 1 (T 75)), none, 3, []⟩, o 77 (.fieldAddr 3 (T 5)), ⟨some 78, (.load true 3 (T 77)), none, 5, []⟩, o 79 (.call 141 [(T 76), (T 78)]), o 80 (.bin .neq (T 79) (I 0)), o 6 (.mov (T 80))]),
                          .ret])
                        .skip)]))]))]))]))]),
    (.reg [o 6 (.mov (B true))]),
    .ret])
theorem ok152 : cfn Tryz.prog Tryz.f152 5 = some (s152, [.tmp 6]) := by kernel_rfl

/-! 153 (*impl.tracer).work -/
def s153 : SCode :=
  (.reg [o 4 (.mov (T 0)), o 5 (.mov (T 0)), o 6 (.nilchk (T 5)), o 7 (.fieldAddr 0 (T 6)), o 8 (.fieldAddr 0 (T 7)), o 9 (.load false 1 (T 8)), o 10 (.mov (T 1)), o 11 (.build [(.int .i64 0), (.int .i64 0), (.int .i64 0)] [(0, 1, (T 10)), (1, 1, (I (-1)))]), o 12 (.lit 1 3 [(.int .i64 0), (.int .i64 0), (.int .i64 0)] [(0, (T 11))]), o 13 (.append 3 24 (T 9) (T 12)), o 14 (.nilchk (T 4)), o 15 (.fieldAddr 0 (T 14)), o 16 (.fieldAddr 0 (T 15)), on_ (.store 1 (T 16) (T 13))])
theorem ok153 : cfn Tryz.prog Tryz.f153 2 = some (s153, []) := by kernel_rfl

/-! 154 impl.StmtCost -/
def s154 : SCode :=
  (sqs [
    (.reg [o 1 (.box 6 (T 0)), o 2 (.mov (I 0))]),
    (sqs [
      (.reg [o 3 (.load true 6 (T 1)), o 4 (.call 133 [(T 3)]), o 5 (.not (T 4))]),
      (.cond (T 5)
        (sqs [
          (.reg [o 2 (.mov (I 0))]),
          .ret])
        .skip)]),
    (.reg [o 6 (.lit 7 1 [(.int .i64 0)] [(0, (I 0)), (1, (I 2)), (2, (I 5)), (3, (I 4)), (4, (I 1)), (5, (I 1)), (6, (I 0))]), o 7 (.fieldAddr 0 (T 1)), o 8 (.load false 1 (T 7)), o 9 (.idxAddr 1 (T 6) (T 8)), o 10 (.load false 1 (T 9)), o 2 (.mov (T 10))]),
    .ret])
theorem ok154 : cfn Tryz.prog Tryz.f154 1 = some (s154, [.tmp 2]) := by kernel_rfl

/-! 155 (*impl.tracer).assign -/
def s155 : SCode :=
  (sqs [
    (sqs [
      (.reg [o 9 (.mov (T 1)), o 10 (.mov (T 2)), o 11 (.call 167 [(T 9), (T 10)]), o 12 (.mov (T 11)), og 13 (.mov (T 0)) 12 true, og 14 (.mov (T 2)) 12 true, og 15 (.nilchk (T 13)) 12 true, og 16 (.fieldAddr 6 (T 15)) 12 true, og 17 (.arrAddr 8 1 (T 16) (T 14)) 12 true, og 18 (.load false 1 (T 17)) 12 true, og 19 (.not (T 18)) 12 true, o 20 (.pick (T 12) (T 19) (B false))]),
      (.cond (T 20)
        (sqs [
          (.reg [o 21 (.mov (T 0)), o 22 (.nilchk (T 21)), o 23 (.fieldAddr 5 (T 22)), o 24 (.load false 1 (T 23)), o 25 (.len (T 24)), o 26 (.bin .mul (I 2) (T 25)), o 27 (.bin .add (I 9) (T 26)), o 8 (.mov (T 27))]),
          (.reg [o 28 (.mov (T 0)), o 29 (.mov (T 8)), o 30 (.mov (T 2)), o 31 (.call 158 [(T 28), (T 29), (T 30)])]),
          (.reg [o 32 (.mov (T 0)), o 33 (.mov (T 8)), o 34 (.bin .add (T 33) (I 1)), o 35 (.mov (T 0)), o 36 (.nilchk (T 35)), o 37 (.fieldAddr 14 (T 36)), o 38 (.load false 1 (T 37)), o 39 (.mov (T 2)), o 40 (.idxAddr 1 (T 38) (T 39)), o 41 (.load false 1 (T 40)), o 42 (.call 158 [(T 32), (T 34), (T 41)])]),
          (.reg [o 43 (.mov (T 0)), o 44 (.mov (T 0)), o 45 (.nilchk (T 44)), o 46 (.fieldAddr 5 (T 45)), o 47 (.load false 1 (T 46)), o 48 (.mov (T 2)), o 49 (.lit 1 1 [(.int .i64 0)] [(0, (T 48))]), o 50 (.append 1 8 (T 47) (T 49)), o 51 (.nilchk (T 43)), o 52 (.fieldAddr 5 (T 51)), on_ (.store 1 (T 52) (T 50))]),
          (.regD [o 53 (.mov (T 0)), o 54 (.mov (T 0)), o 55 (.nilchk (T 54)), o 56 (.fieldAddr 2 (T 55)), ⟨some 57, (.load false 1 (T 56)), none, 4, []⟩, o 58 (.mov (T 0)), o 59 (.nilchk (T 58)), o 60 (.fieldAddr 5 (T 59)), ⟨some 61, (.load false 1 (T 60)), none, 8, []⟩, o 62 (.len (T 61)), o 63 (.mov (T 0)), o 64 (.nilchk (T 63)), o 65 (.fieldAddr 3 (T 64)), ⟨some 66, (.load false 1 (T 65)), none, 13, []⟩, o 67 (.call 159 [(T 57), (T 62), (T 66)]), o 68 (.call 158 [(T 53), (I 8), (T 67)])])])
        .skip)]),
    (.reg [o 69 (.mov (T 0)), o 70 (.mov (T 2)), o 71 (.nilchk (T 69)), o 72 (.fieldAddr 6 (T 71)), o 73 (.arrAddr 8 1 (T 72) (T 70)), on_ (.store 1 (T 73) (B true))]),
    (.reg [o 74 (.mov (T 0)), o 75 (.nilchk (T 74)), o 76 (.fieldAddr 14 (T 75)), o 77 (.load false 1 (T 76)), o 78 (.mov (T 2)), o 79 (.mov (T 3)), o 80 (.idxAddr 1 (T 77) (T 78)), on_ (.store 1 (T 80) (T 79))]),
    (.reg [o 81 (.mov (T 0)), o 82 (.mov (T 2)), o 83 (.mov (T 3)), o 84 (.call 158 [(T 81), (T 82), (T 83)])])])
theorem ok155 : cfn Tryz.prog Tryz.f155 4 = some (s155, []) := by kernel_rfl

/-! 156 impl.ReadSensor -/
def s156 : SCode :=
  (sqs [
    (.reg [o 6 (.mov (I 0))]),
    (sqs [
      (.reg [o 7 (.mov (T 0)), o 8 (.len (T 7)), o 9 (.bin .eql (T 8) (I 0)), o 10 (.mov (T 9)), og 11 (.mov (T 1)) 10 false, og 12 (.call 192 [(T 11)]) 10 false, og 13 (.not (T 12)) 10 false, o 14 (.pick (T 10) (B true) (T 13)), o 15 (.mov (T 14)), og 16 (.mov (T 2)) 15 false, og 17 (.bin .lss (T 16) (I 0)) 15 false, o 18 (.pick (T 15) (B true) (T 17))]),
      (.cond (T 18)
        (sqs [
          (.reg [o 6 (.mov (I 0))]),
          .ret])
        .skip)]),
    (.reg [o 19 (.mov (T 0)), o 20 (.mov (T 2)), o 21 (.mov (T 0)), o 22 (.len (T 21)), o 23 (.bin .rem (T 20) (T 22)), o 24 (.idxAddr 1 (T 19) (T 23)), o 25 (.load false 1 (T 24)), o 26 (.mov (T 1)), o 27 (.bin .mul (I 100) (T 26)), o 28 (.call 197 [(T 25), (T 27)]), o 6 (.mov (T 28))]),
    .ret])
theorem ok156 : cfn Tryz.prog Tryz.f156 3 = some (s156, [.tmp 6]) := by kernel_rfl

/-! 157 (*impl.tracer).send -/
def s157 : SCode :=
  (sqs [
    (sqs [
      (.regD [o 5 (.mov (T 0)), o 6 (.nilchk (T 5)), o 7 (.fieldAddr 3 (T 6)), ⟨some 8, (.load false 1 (T 7)), none, 3, []⟩, o 9 (.mov (T 0)), o 10 (.nilchk (T 9)), o 11 (.fieldAddr 4 (T 10)), ⟨some 12, (.load false 1 (T 11)), none, 7, []⟩, o 13 (.bin .add (T 8) (T 12)), o 4 (.mov (T 13))]),
      (.reg [o 14 (.mov (T 4)), o 15 (.bin .lss (T 14) (I 24))]),
      (.cond (T 15)
        (.reg [o 16 (.mov (T 0)), o 17 (.mov (T 4)), o 18 (.bin .add (I 25) (T 17)), o 19 (.mov (T 1)), o 20 (.call 158 [(T 16), (T 18), (T 19)])])
        .skip)]),
    (.reg [o 21 (.mov (T 0)), o 22 (.nilchk (T 21)), o 23 (.fieldAddr 4 (T 22)), o 24 (.load false 1 (T 23)), o 25 (.bin .add (T 24) (I 1)), o 26 (.nilchk (T 21)), o 27 (.fieldAddr 4 (T 26)), on_ (.store 1 (T 27) (T 25))])])
theorem ok157 : cfn Tryz.prog Tryz.f157 2 = some (s157, []) := by kernel_rfl

/-! 158 (*impl.tracer).write -/
def s158 : SCode :=
  (.reg [o 6 (.mov (T 0)), o 7 (.mov (T 0)), o 8 (.nilchk (T 7)), o 9 (.fieldAddr 0 (T 8)), o 10 (.fieldAddr 0 (T 9)), o 11 (.load false 1 (T 10)), o 12 (.mov (T 1)), o 13 (.mov (T 2)), o 14 (.build [(.int .i64 0), (.int .i64 0), (.int .i64 0)] [(0, 1, (I 3)), (1, 1, (T 12)), (2, 1, (T 13))]), o 15 (.lit 1 3 [(.int .i64 0), (.int .i64 0), (.int .i64 0)] [(0, (T 14))]), o 16 (.append 3 24 (T 11) (T 15)), o 17 (.nilchk (T 6)), o 18 (.fieldAddr 0 (T 17)), o 19 (.fieldAddr 0 (T 18)), on_ (.store 1 (T 19) (T 16))])
theorem ok158 : cfn Tryz.prog Tryz.f158 3 = some (s158, []) := by kernel_rfl

/-! 159 impl.PackControl -/
def s159 : SCode :=
  (sqs [
    (.reg [o 6 (.mov (I 0))]),
    (sqs [
      (.reg [o 7 (.mov (T 0)), o 8 (.call 114 [(T 7), (I 0), (I 5)]), o 9 (.not (T 8)), o 10 (.mov (T 9)), og 11 (.mov (T 1)) 10 false, og 12 (.call 114 [(T 11), (I 0), (I 8)]) 10 false, og 13 (.not (T 12)) 10 false, o 14 (.pick (T 10) (B true) (T 13)), o 15 (.mov (T 14)), og 16 (.mov (T 2)) 15 false, og 17 (.call 114 [(T 16), (I 0), (I 24)]) 15 false, og 18 (.not (T 17)) 15 false, o 19 (.pick (T 15) (B true) (T 18))]),
      (.cond (T 19)
        (sqs [
          (.reg [o 6 (.mov (I (-1)))]),
          .ret])
        .skip)]),
    (.reg [o 20 (.mov (T 0)), o 21 (.mov (T 1)), o 22 (.mov (T 2)), o 23 (.bin .mul (I 16) (T 22)), o 24 (.bin .add (T 21) (T 23)), o 25 (.bin .mul (I 8) (T 24)), o 26 (.bin .add (T 20) (T 25)), o 6 (.mov (T 26))]),
    .ret])
theorem ok159 : cfn Tryz.prog Tryz.f159 3 = some (s159, [.tmp 6]) := by kernel_rfl

/-! 160 impl.ExprOk -/
def s160 : SCode :=
  (sqs [
    (.reg [o 1 (.box 3 (T 0)), o 2 (.mov (B false))]),
    (.reg [o 3 (.fieldAddr 0 (T 1)), o 4 (.load false 1 (T 3)), o 5 (.call 114 [(T 4), (I 1), (I 7)]), o 6 (.mov (T 5)), og 7 (.fieldAddr 1 (T 1)) 6 true, og 8 (.load false 1 (T 7)) 6 true, og 9 (.call 200 [(T 8)]) 6 true, o 10 (.pick (T 6) (T 9) (B false)), o 11 (.mov (T 10)), og 12 (.fieldAddr 2 (T 1)) 11 true, og 13 (.load false 1 (T 12)) 11 true, og 14 (.call 200 [(T 13)]) 11 true, o 15 (.pick (T 11) (T 14) (B false)), o 2 (.mov (T 15))]),
    .ret])
theorem ok160 : cfn Tryz.prog Tryz.f160 1 = some (s160, [.tmp 2]) := by kernel_rfl

/-! 161 impl.endOf -/
def s161 : SCode :=
  (sqs [
    (.reg [o 4 (.mov (I 0))]),
    (.reg [o 5 (.mov (I 0))]),
    (sqs [
      (.reg [o 7 (.mov (T 1)), o 6 (.mov (T 7))]),
      (.block 0
        (.loop
          (sqs [
            (sqs [
              (.reg [o 8 (.mov (T 6)), o 9 (.mov (T 0)), o 10 (.len (T 9)), o 11 (.bin .lss (T 8) (T 10))]),
              (.cond (T 11)
                .skip
                (.exit 0))]),
            (.block 1
              (sqs [
                (sqs [
                  (.reg [o 14 (.mov (T 0)), o 15 (.mov (T 6)), o 16 (.idxAddr 6 (T 14) (T 15)), o 17 (.fieldAddr 0 (T 16)), o 18 (.load false 1 (T 17)), o 19 (.call 134 [(T 18)])]),
                  (.cond (T 19)
                    (.reg [o 20 (.mov (T 5)), o 21 (.bin .add (T 20) (I 1)), o 5 (.mov (T 21))])
                    .skip)]),
                (sqs [
                  (.reg [o 22 (.mov (T 0)), o 23 (.mov (T 6)), o 24 (.idxAddr 6 (T 22) (T 23)), o 25 (.fieldAddr 0 (T 24)), o 26 (.load false 1 (T 25)), o 27 (.bin .eql (T 26) (I 6))]),
                  (.cond (T 27)
                    (.reg [o 28 (.mov (T 5)), o 29 (.bin .sub (T 28) (I 1)), o 5 (.mov (T 29))])
                    .skip)]),
                (.reg [o 30 (.mov (T 5)), o 31 (.bin .eql (T 30) (I 0))]),
                (.cond (T 31)
                  (sqs [
                    (.reg [o 32 (.mov (T 6)), o 4 (.mov (T 32))]),
                    .ret])
                  .skip)])),
            (.reg [o 12 (.mov (T 6)), o 13 (.bin .add (T 12) (I 1)), o 6 (.mov (T 13))])])))]),
    (.reg [o 4 (.mov (I (-1)))]),
    .ret])
theorem ok161 : cfn Tryz.prog Tryz.f161 2 = some (s161, [.tmp 4]) := by kernel_rfl

/-! 162 impl.MayReadFirst -/
def s162 : SCode :=
  (sqs [
    (.reg [o 1 (.box 4 (T 0)), o 2 (.mov N)]),
    (sqs [
      (.reg [o 7 (.load true 4 (T 1)), o 8 (.call 93 [(T 7)]), o 9 (.not (T 8))]),
      (.cond (T 9)
        (sqs [
          (.reg [o 2 (.mov N)]),
          .ret])
        .skip)]),
    (.reg [o 10 (.build [(.bool false), (.bool false), (.bool false), (.bool false), (.bool false), (.bool false), (.bool false), (.bool false), (.bool false), (.bool false), (.bool false), (.bool false), (.bool false), (.bool false), (.bool false), (.bool false)] []), o 11 (.box 16 (T 10)), o 3 (.mov (T 11))]),
    (.reg [o 12 (.mov (T 3)), o 13 (.fieldAddr 0 (T 1)), o 14 (.load false 1 (T 13)), o 15 (.call 201 [(T 12), (T 14)])]),
    (.reg [o 16 (.mov (T 3)), o 17 (.fieldAddr 1 (T 1)), o 18 (.load true 3 (T 17)), o 19 (.call 202 [(T 16), (T 18)])]),
    (.reg [o 20 (.lit 0 1 [(.int .i64 0)] []), o 4 (.mov (T 20))]),
    (sqs [
      (.reg [o 21 (.mov (T 3)), o 22 (.nilchk (T 21)), o 23 (.fieldAddr 8 (T 22)), o 24 (.load true 8 (T 23)), o 25 (.mov (I 0))]),
      (.block 0
        (.loop
          (sqs [
            (.reg [o 26 (.bin .lss (T 25) (I 8))]),
            (.cond (T 26)
              .skip
              (.exit 0)),
            (.block 1
              (sqs [
                (.reg [o 27 (.mov (T 25)), o 28 (.idx false 8 1 (T 24) (T 25)), o 5 (.mov (T 27)), o 6 (.mov (T 28))]),
                (.reg [o 29 (.mov (T 6))]),
                (.cond (T 29)
                  (.reg [o 30 (.mov (T 4)), o 31 (.mov (T 5)), o 32 (.lit 1 1 [(.int .i64 0)] [(0, (T 31))]), o 33 (.append 1 8 (T 30) (T 32)), o 4 (.mov (T 33))])
                  .skip)])),
            (.reg [o 34 (.bin .add (T 25) (I 1)), o 25 (.mov (T 34))])])))]),
    (.reg [o 35 (.mov (T 4)), o 2 (.mov (T 35))]),
    .ret])
theorem ok162 : cfn Tryz.prog Tryz.f162 1 = some (s162, [.tmp 2]) := by kernel_rfl

/-! 163 impl.MustWrite -/
def s163 : SCode :=
  (sqs [
    (.reg [o 2 (.mov N)]),
    (sqs [
      (.reg [o 7 (.mov (T 0)), o 8 (.call 75 [(T 7)]), o 9 (.not (T 8))]),
      (.cond (T 9)
        (sqs [
          (.reg [o 2 (.mov N)]),
          .ret])
        .skip)]),
    (.reg [o 10 (.mov (T 0)), o 11 (.len (T 10)), o 12 (.make 1 1 [(.bool false)] (T 11)), o 3 (.hole 1), o 3 (.birth 1 (T 3) (T 12))]),
    (sqs [
      (.reg [o 13 (.mov (T 0)), o 14 (.len (T 13)), o 15 (.mov (I 0))]),
      (.block 0
        (.loop
          (sqs [
            (.reg [o 16 (.bin .lss (T 15) (T 14))]),
            (.cond (T 16)
              .skip
              (.exit 0)),
            (.block 1
              (sqs [
                (.reg [o 17 (.mov (T 15)), o 18 (.idxAddr 6 (T 13) (T 15)), o 19 (.load true 6 (T 18)), o 5 (.hole 6), o 4 (.mov (T 17)), o 5 (.birth 6 (T 5) (T 19))]),
                (.reg [o 20 (.fieldAddr 0 (T 5)), o 21 (.load false 1 (T 20)), o 22 (.bin .eql (T 21) (I 4))]),
                (.cond (T 22)
                  (sqs [
                    (.reg [o 23 (.mov (T 4)), o 6 (.mov (T 23))]),
                    (.block 2
                      (.loop
                        (sqs [
                          (sqs [
                            (.reg [o 24 (.mov (T 6)), o 25 (.mov (T 0)), o 26 (.mov (T 4)), o 27 (.call 161 [(T 25), (T 26)]), o 28 (.bin .leq (T 24) (T 27))]),
                            (.cond (T 28)
                              .skip
                              (.exit 2))]),
                          (.block 3
                            (.reg [o 31 (.load false 1 (T 3)), o 32 (.mov (T 6)), o 33 (.idxAddr 1 (T 31) (T 32)), on_ (.store 1 (T 33) (B true))])),
                          (.reg [o 29 (.mov (T 6)), o 30 (.bin .add (T 29) (I 1)), o 6 (.mov (T 30))])])))])
                  .skip)])),
            (.reg [o 34 (.bin .add (T 15) (I 1)), o 15 (.mov (T 34))])])))]),
    (.reg [o 35 (.mov (T 0)), o 36 (.mkfn 204 [(T 3)]), o 37 (.call 203 [(T 35), (T 36)]), o 2 (.mov (T 37))]),
    .ret])
theorem ok163 : cfn Tryz.prog Tryz.f163 1 = some (s163, [.tmp 2]) := by kernel_rfl

/-! 164 slices.DeleteFunc[[]int,int] -/
def s164 : SCode :=
  (sqs [
    (.reg [o 4 (.mov N)]),
    (.reg [o 8 (.mov (T 0)), o 9 (.mov (T 1)), o 10 (.call 179 [(T 8), (T 9)]), o 5 (.mov (T 10))]),
    (sqs [
      (.reg [o 11 (.mov (T 5)), o 12 (.bin .eql (T 11) (I (-1)))]),
      (.cond (T 12)
        (sqs [
          (.reg [o 13 (.mov (T 0)), o 4 (.mov (T 13))]),
          .ret])
        .skip)]),
    (sqs [
      (.reg [o 14 (.mov (T 5)), o 15 (.bin .add (T 14) (I 1)), o 6 (.mov (T 15))]),
      (.block 0
        (.loop
          (sqs [
            (sqs [
              (.reg [o 16 (.mov (T 6)), o 17 (.mov (T 0)), o 18 (.len (T 17)), o 19 (.bin .lss (T 16) (T 18))]),
              (.cond (T 19)
                .skip
                (.exit 0))]),
            (.block 1
              (sqs [
                (.reg [o 22 (.mov (T 0)), o 23 (.mov (T 6)), o 24 (.idxAddr 1 (T 22) (T 23)), o 25 (.load false 1 (T 24)), o 7 (.mov (T 25))]),
                (.reg [o 26 (.mov (T 1)), o 27 (.mov (T 7)), o 28 (.callv (T 26) [(T 27)]), o 29 (.not (T 28))]),
                (.cond (T 29)
                  (sqs [
                    (.reg [o 30 (.mov (T 0)), o 31 (.mov (T 5)), o 32 (.mov (T 7)), o 33 (.idxAddr 1 (T 30) (T 31)), on_ (.store 1 (T 33) (T 32))]),
                    (.reg [o 34 (.mov (T 5)), o 35 (.bin .add (T 34) (I 1)), o 5 (.mov (T 35))])])
                  .skip)])),
            (.reg [o 20 (.mov (T 6)), o 21 (.bin .add (T 20) (I 1)), o 6 (.mov (T 21))])])))]),
    (.reg [o 36 (.mov (T 0)), o 37 (.mov (T 5)), o 38 (.slice 1 (T 36) (some (T 37)) none), on_ (.clear 1 [(.int .i64 0)] (T 38))]),
    (.reg [o 39 (.mov (T 0)), o 40 (.mov (T 5)), o 41 (.slice 1 (T 39) none (some (T 40))), o 4 (.mov (T 41))]),
    .ret])
theorem ok164 : cfn Tryz.prog Tryz.f164 2 = some (s164, [.tmp 4]) := by kernel_rfl

/-! 165 impl.MayWrite -/
def s165 : SCode :=
  (sqs [
    (.reg [o 2 (.mov N)]),
    (sqs [
      (.reg [o 3 (.mov (T 0)), o 4 (.call 75 [(T 3)]), o 5 (.not (T 4))]),
      (.cond (T 5)
        (sqs [
          (.reg [o 2 (.mov N)]),
          .ret])
        .skip)]),
    (.reg [o 6 (.mov (T 0)), o 7 (.call 203 [(T 6), (.val (.fn 205 []))]), o 2 (.mov (T 7))]),
    .ret])
theorem ok165 : cfn Tryz.prog Tryz.f165 1 = some (s165, [.tmp 2]) := by kernel_rfl

/-! 166 impl.MustLog$1 -/
def s166 : SCode :=
  (sqs [
    (.reg [o 4 (.mov (B false))]),
    (.reg [o 5 (.load false 1 (T 1)), o 6 (.mov (T 0)), o 7 (.call 167 [(T 5), (T 6)]), o 8 (.not (T 7)), o 9 (.mov (T 8)), og 10 (.load false 1 (T 2)) 9 true, og 11 (.mov (T 0)) 9 true, og 12 (.call 167 [(T 10), (T 11)]) 9 true, o 13 (.pick (T 9) (T 12) (B false)), o 4 (.mov (T 13))]),
    .ret])
theorem ok166 : cfn Tryz.prog Tryz.f166 3 = some (s166, [.tmp 4]) := by kernel_rfl

/-! 167 impl.HasVar -/
def s167 : SCode :=
  (sqs [
    (.reg [o 4 (.mov (B false))]),
    (.reg [o 5 (.mov (T 0)), o 6 (.mov (T 1)), o 7 (.call 80 [(T 5), (T 6)]), o 4 (.mov (T 7))]),
    .ret])
theorem ok167 : cfn Tryz.prog Tryz.f167 2 = some (s167, [.tmp 4]) := by kernel_rfl

/-! 168 laws.szTask -/
def s168 : SCode :=
  (sqs [
    (.reg [o 2 (.box 4 (T 0)), o 4 (.mov (I 0))]),
    (.reg [o 5 (.fieldAddr 0 (T 2)), o 6 (.load false 1 (T 5)), o 7 (.mov (T 1)), o 8 (.call 206 [(T 6), (T 7)]), o 1 (.mov (T 8))]),
    (sqs [
      (.reg [o 9 (.mov (T 1)), o 10 (.bin .lss (T 9) (I 0))]),
      (.cond (T 10)
        (sqs [
          (.reg [o 4 (.mov (I (-1)))]),
          .ret])
        .skip)]),
    (.reg [o 11 (.mov (T 1)), o 4 (.mov (T 11))]),
    .ret])
theorem ok168 : cfn Tryz.prog Tryz.f168 2 = some (s168, [.tmp 4]) := by kernel_rfl

/-! 169 spec.l03Eval -/
def s169 : SCode :=
  (sqs [
    (.reg [o 3 (.box 3 (T 1)), o 4 (.mov (I 0))]),
    (.reg [o 7 (.mov (T 0)), o 8 (.fieldAddr 1 (T 3)), o 9 (.load false 1 (T 8)), o 10 (.call 207 [(T 7), (T 9)]), o 5 (.mov (T 10))]),
    (.reg [o 11 (.mov (T 0)), o 12 (.fieldAddr 2 (T 3)), o 13 (.load false 1 (T 12)), o 14 (.call 207 [(T 11), (T 13)]), o 6 (.mov (T 14))]),
    (sqs [
      (.reg [o 15 (.fieldAddr 0 (T 3)), o 16 (.load false 1 (T 15))]),
      (.block 0
        (sqs [
          (.reg [o 18 (.bin .eql (T 16) (I 1)), o 17 (.mov (T 18))]),
          (.cond (T 17)
            (sqs [
              (.reg [o 19 (.mov (T 5)), o 20 (.mov (T 6)), o 21 (.call 208 [(T 19), (T 20)]), o 4 (.mov (T 21))]),
              .ret])
            (sqs [
              (.reg [o 23 (.bin .eql (T 16) (I 2)), o 22 (.mov (T 23))]),
              (.cond (T 22)
                (sqs [
                  (.reg [o 24 (.mov (T 5)), o 25 (.mov (T 6)), o 26 (.call 209 [(T 24), (T 25)]), o 4 (.mov (T 26))]),
                  .ret])
                (sqs [
                  (.reg [o 28 (.bin .eql (T 16) (I 3)), o 27 (.mov (T 28))]),
                  (.cond (T 27)
                    (sqs [
                      (.reg [o 29 (.mov (T 5)), o 30 (.mov (T 6)), o 31 (.call 210 [(T 29), (T 30)]), o 4 (.mov (T 31))]),
                      .ret])
                    (sqs [
                      (.reg [o 33 (.bin .eql (T 16) (I 4)), o 32 (.mov (T 33))]),
                      (.cond (T 32)
                        (sqs [
                          (.reg [o 34 (.mov (T 5)), o 35 (.mov (T 6)), o 36 (.min (T 34) (T 35)), o 4 (.mov (T 36))]),
                          .ret])
                        (sqs [
                          (.reg [o 38 (.bin .eql (T 16) (I 5)), o 37 (.mov (T 38))]),
                          (.cond (T 37)
                            (sqs [
                              (.reg [o 39 (.mov (T 5)), o 40 (.mov (T 6)), o 41 (.max (T 39) (T 40)), o 4 (.mov (T 41))]),
                              .ret])
                            (sqs [
                              (.reg [o 43 (.bin .eql (T 16) (I 6)), o 42 (.mov (T 43))]),
                              (.cond (T 42)
                                (sqs [
                                  (.reg [o 44 (.mov (T 5)), o 45 (.mov (T 6)), o 46 (.bin .lss (T 44) (T 45)), o 47 (.call 211 [(T 46)]), o 4 (.mov (T 47))]),
                                  .ret])
                                .skip)]))]))]))]))]))]))]),
    (.reg [o 48 (.mov (T 5)), o 49 (.mov (T 6)), o 50 (.bin .eql (T 48) (T 49)), o 51 (.call 211 [(T 50)]), o 4 (.mov (T 51))]),
    .ret])
theorem ok169 : cfn Tryz.prog Tryz.f169 2 = some (s169, [.tmp 4]) := by kernel_rfl

/-! 170 laws.toTask -/
def s170 : SCode :=
  (sqs [
    (.reg [o 1 (.box 4 (T 0)), o 2 (.zero [.nils, (.int .i64 0), (.int .i64 0), (.int .i64 0)])]),
    (.reg [o 3 (.zero [.nils, (.int .i64 0), (.int .i64 0), (.int .i64 0)])]),
    (.reg [o 4 (.fieldAddr 0 (T 1)), o 5 (.load false 1 (T 4)), o 6 (.call 212 [(T 5)]), o 7 (.fieldAddr 0 (T 3)), on_ (.store 1 (T 7) (T 6))]),
    (.reg [o 8 (.fieldAddr 1 (T 1)), o 9 (.load true 3 (T 8)), o 10 (.call 213 [(T 9)]), o 11 (.fieldAddr 1 (T 3)), on_ (.store 3 (T 11) (T 10))]),
    (.reg [o 12 (.load true 4 (T 3)), on_ (.store 4 (T 2) (T 12))]),
    .ret])
theorem ok170 : cfn Tryz.prog Tryz.f170 1 = some (s170, [.cell 2 true 4]) := by kernel_rfl

/-! 171 laws.eqTask -/
def s171 : SCode :=
  (sqs [
    (.reg [o 2 (.box 4 (T 0)), o 3 (.box 4 (T 1)), o 4 (.mov (B false))]),
    (sqs [
      (.reg [o 5 (.fieldAddr 0 (T 2)), o 6 (.load false 1 (T 5)), o 7 (.fieldAddr 0 (T 3)), o 8 (.load false 1 (T 7)), o 9 (.call 214 [(T 6), (T 8)]), o 10 (.not (T 9))]),
      (.cond (T 10)
        (sqs [
          (.reg [o 4 (.mov (B false))]),
          .ret])
        .skip)]),
    (sqs [
      (.reg [o 11 (.fieldAddr 1 (T 2)), o 12 (.load true 3 (T 11)), o 13 (.fieldAddr 1 (T 3)), o 14 (.load true 3 (T 13)), o 15 (.call 215 [(T 12), (T 14)]), o 16 (.not (T 15))]),
      (.cond (T 16)
        (sqs [
          (.reg [o 4 (.mov (B false))]),
          .ret])
        .skip)]),
    (.reg [o 4 (.mov (B true))]),
    .ret])
theorem ok171 : cfn Tryz.prog Tryz.f171 2 = some (s171, [.tmp 4]) := by kernel_rfl

/-! 172 laws.markStmtS -/
def s172 : SCode :=
  (sqs [
    (.reg [o 4 (.mov (I 0))]),
    (sqs [
      (.reg [o 5 (.mov (I 0))]),
      (.block 0
        (.loop
          (sqs [
            (sqs [
              (.reg [o 6 (.mov (T 5)), o 7 (.mov (T 0)), o 8 (.len (T 7)), o 9 (.bin .lss (T 6) (T 8))]),
              (.cond (T 9)
                .skip
                (.exit 0))]),
            (.block 1
              (sqs [
                (.reg [o 12 (.mov (T 0)), o 13 (.mov (T 5)), o 14 (.mov (T 1)), o 15 (.idxAddr 6 (T 12) (T 13)), o 16 (.fieldAddr 0 (T 15)), on_ (.store 1 (T 16) (T 14))]),
                (.reg [o 17 (.mov (T 1)), o 18 (.bin .add (T 17) (I 1)), o 1 (.mov (T 18))]),
                (.reg [o 19 (.mov (T 0)), o 20 (.mov (T 5)), o 21 (.mov (T 1)), o 22 (.idxAddr 6 (T 19) (T 20)), o 23 (.fieldAddr 1 (T 22)), on_ (.store 1 (T 23) (T 21))]),
                (.reg [o 24 (.mov (T 1)), o 25 (.bin .add (T 24) (I 1)), o 1 (.mov (T 25))]),
                (.reg [o 26 (.mov (T 0)), o 27 (.mov (T 5)), o 28 (.mov (T 1)), o 29 (.idxAddr 6 (T 26) (T 27)), o 30 (.fieldAddr 2 (T 29)), on_ (.store 1 (T 30) (T 28))]),
                (.reg [o 31 (.mov (T 1)), o 32 (.bin .add (T 31) (I 1)), o 1 (.mov (T 32))]),
                (.reg [o 33 (.mov (T 0)), o 34 (.mov (T 5)), o 35 (.mov (T 1)), o 36 (.idxAddr 6 (T 33) (T 34)), o 37 (.fieldAddr 3 (T 36)), o 38 (.fieldAddr 0 (T 37)), on_ (.store 1 (T 38) (T 35))]),
                (.reg [o 39 (.mov (T 1)), o 40 (.bin .add (T 39) (I 1)), o 1 (.mov (T 40))]),
                (.reg [o 41 (.mov (T 0)), o 42 (.mov (T 5)), o 43 (.mov (T 1)), o 44 (.idxAddr 6 (T 41) (T 42)), o 45 (.fieldAddr 3 (T 44)), o 46 (.fieldAddr 1 (T 45)), on_ (.store 1 (T 46) (T 43))]),
                (.reg [o 47 (.mov (T 1)), o 48 (.bin .add (T 47) (I 1)), o 1 (.mov (T 48))]),
                (.reg [o 49 (.mov (T 0)), o 50 (.mov (T 5)), o 51 (.mov (T 1)), o 52 (.idxAddr 6 (T 49) (T 50)), o 53 (.fieldAddr 3 (T 52)), o 54 (.fieldAddr 2 (T 53)), on_ (.store 1 (T 54) (T 51))]),
                (.reg [o 55 (.mov (T 1)), o 56 (.bin .add (T 55) (I 1)), o 1 (.mov (T 56))])])),
            (.reg [o 10 (.mov (T 5)), o 11 (.bin .add (T 10) (I 1)), o 5 (.mov (T 11))])])))]),
    (.reg [o 57 (.mov (T 1)), o 4 (.mov (T 57))]),
    .ret])
theorem ok172 : cfn Tryz.prog Tryz.f172 2 = some (s172, [.tmp 4]) := by kernel_rfl

/-! 174 spec.ExprOk -/
def s174 : SCode :=
  (sqs [
    (.reg [o 1 (.box 3 (T 0)), o 2 (.mov (B false))]),
    (.reg [o 3 (.fieldAddr 0 (T 1)), o 4 (.load false 1 (T 3)), o 5 (.call 99 [(T 4), (I 1), (I 7)]), o 6 (.mov (T 5)), og 7 (.fieldAddr 1 (T 1)) 6 true, og 8 (.load false 1 (T 7)) 6 true, og 9 (.call 216 [(T 8)]) 6 true, o 10 (.pick (T 6) (T 9) (B false)), o 11 (.mov (T 10)), og 12 (.fieldAddr 2 (T 1)) 11 true, og 13 (.load false 1 (T 12)) 11 true, og 14 (.call 216 [(T 13)]) 11 true, o 15 (.pick (T 11) (T 14) (B false)), o 2 (.mov (T 15))]),
    .ret])
theorem ok174 : cfn Tryz.prog Tryz.f174 1 = some (s174, [.tmp 2]) := by kernel_rfl

/-! 175 spec.l08Ok -/
def s175 : SCode :=
  (sqs [
    (.reg [o 1 (.box 4 (T 0)), o 2 (.mov (B false))]),
    (.reg [o 3 (.fieldAddr 0 (T 1)), o 4 (.load false 1 (T 3)), o 5 (.call 77 [(T 4)]), o 6 (.mov (T 5)), og 7 (.fieldAddr 1 (T 1)) 6 true, og 8 (.load true 3 (T 7)) 6 true, og 9 (.call 174 [(T 8)]) 6 true, o 10 (.pick (T 6) (T 9) (B false)), o 2 (.mov (T 10))]),
    .ret])
theorem ok175 : cfn Tryz.prog Tryz.f175 1 = some (s175, [.tmp 2]) := by kernel_rfl

/-! 176 spec.TaskBound -/
def s176 : SCode :=
  (sqs [
    (.reg [o 1 (.box 4 (T 0)), o 2 (.mov (I 0))]),
    (sqs [
      (.reg [o 3 (.load true 4 (T 1)), o 4 (.call 175 [(T 3)]), o 5 (.not (T 4))]),
      (.cond (T 5)
        (sqs [
          (.reg [o 2 (.mov (I (-1)))]),
          .ret])
        .skip)]),
    (.regD [o 6 (.load true 4 (T 1)), ⟨some 8, (.load true 4 (T 1)), none, 2, []⟩, ⟨some 7, (.call 217 [(T 6)]), none, 0, [2]⟩, o 9 (.call 178 [(T 8)]), o 10 (.len (T 9)), o 11 (.bin .mul (I 9) (T 10)), o 12 (.bin .add (T 7) (T 11)), o 13 (.bin .add (T 12) (I 1)), o 14 (.bin .add (T 13) (I 3)), o 2 (.mov (T 14))]),
    .ret])
theorem ok176 : cfn Tryz.prog Tryz.f176 1 = some (s176, [.tmp 2]) := by kernel_rfl

/-! 177 spec.RecoveryCost -/
def s177 : SCode :=
  (sqs [
    (.reg [o 2 (.mov (I 0))]),
    (sqs [
      (.reg [o 3 (.mov (T 0)), o 4 (.call 99 [(T 3), (I 0), (I 8)]), o 5 (.not (T 4))]),
      (.cond (T 5)
        (sqs [
          (.reg [o 2 (.mov (I (-1)))]),
          .ret])
        .skip)]),
    (sqs [
      (.reg [o 6 (.mov (T 0)), o 7 (.bin .eql (T 6) (I 0))]),
      (.cond (T 7)
        (sqs [
          (.reg [o 2 (.mov (I 0))]),
          .ret])
        .skip)]),
    (.reg [o 8 (.mov (T 0)), o 9 (.bin .add (T 8) (I 1)), o 10 (.bin .mul (I 3) (T 9)), o 2 (.mov (T 10))]),
    .ret])
theorem ok177 : cfn Tryz.prog Tryz.f177 1 = some (s177, [.tmp 2]) := by kernel_rfl

/-! 178 spec.MustLog -/
def s178 : SCode :=
  (sqs [
    (.reg [o 1 (.box 4 (T 0)), o 2 (.mov N)]),
    (.reg [o 8 (.lit 0 1 [(.int .i64 0)] []), o 3 (.mov (T 8))]),
    (sqs [
      (.reg [o 9 (.load true 4 (T 1)), o 10 (.call 175 [(T 9)]), o 11 (.not (T 10))]),
      (.cond (T 11)
        (sqs [
          (.reg [o 12 (.mov (T 3)), o 2 (.mov (T 12))]),
          .ret])
        .skip)]),
    (.reg [o 13 (.fieldAddr 0 (T 1)), o 14 (.load false 1 (T 13)), o 15 (.call 218 [(T 14)]), o 4 (.mov (T 15))]),
    (.reg [o 16 (.fieldAddr 0 (T 1)), o 17 (.load false 1 (T 16)), o 18 (.call 219 [(T 17)]), o 5 (.mov (T 18))]),
    (.reg [o 19 (.load true 4 (T 1)), o 20 (.call 220 [(T 19)]), o 6 (.mov (T 20))]),
    (sqs [
      (.reg [o 7 (.mov (I 0))]),
      (.block 0
        (.loop
          (sqs [
            (sqs [
              (.reg [o 21 (.mov (T 7)), o 22 (.mov (T 4)), o 23 (.len (T 22)), o 24 (.bin .lss (T 21) (T 23))]),
              (.cond (T 24)
                .skip
                (.exit 0))]),
            (.block 1
              (sqs [
                (.reg [o 27 (.mov (T 6)), o 28 (.mov (T 4)), o 29 (.mov (T 7)), o 30 (.idxAddr 1 (T 28) (T 29)), o 31 (.load false 1 (T 30)), o 32 (.call 100 [(T 27), (T 31)]), o 33 (.mov (T 32)), og 34 (.mov (T 5)) 33 false, og 35 (.mov (T 4)) 33 false, og 36 (.mov (T 7)) 33 false, og 37 (.idxAddr 1 (T 35) (T 36)) 33 false, og 38 (.load false 1 (T 37)) 33 false, og 39 (.call 100 [(T 34), (T 38)]) 33 false, og 40 (.not (T 39)) 33 false, o 41 (.pick (T 33) (B true) (T 40))]),
                (.cond (T 41)
                  (.reg [o 42 (.mov (T 3)), o 43 (.mov (T 4)), o 44 (.mov (T 7)), o 45 (.idxAddr 1 (T 43) (T 44)), o 46 (.load false 1 (T 45)), o 47 (.lit 1 1 [(.int .i64 0)] [(0, (T 46))]), o 48 (.append 1 8 (T 42) (T 47)), o 3 (.mov (T 48))])
                  .skip)])),
            (.reg [o 25 (.mov (T 7)), o 26 (.bin .add (T 25) (I 1)), o 7 (.mov (T 26))])])))]),
    (.reg [o 49 (.mov (T 3)), o 2 (.mov (T 49))]),
    .ret])
theorem ok178 : cfn Tryz.prog Tryz.f178 1 = some (s178, [.tmp 2]) := by kernel_rfl

/-! 179 slices.IndexFunc[[]int,int] -/
def s179 : SCode :=
  (sqs [
    (.reg [o 4 (.mov (I 0))]),
    (sqs [
      (.reg [o 6 (.mov (T 0)), o 7 (.len (T 6)), o 8 (.mov (I 0))]),
      (.block 0
        (.loop
          (sqs [
            (.reg [o 9 (.bin .lss (T 8) (T 7))]),
            (.cond (T 9)
              .skip
              (.exit 0)),
            (.block 1
              (sqs [
                (.reg [o 10 (.mov (T 8)), o 5 (.mov (T 10))]),
                (.reg [o 11 (.mov (T 1)), o 12 (.mov (T 0)), o 13 (.mov (T 5)), o 14 (.idxAddr 1 (T 12) (T 13)), o 15 (.load false 1 (T 14)), o 16 (.callv (T 11) [(T 15)])]),
                (.cond (T 16)
                  (sqs [
                    (.reg [o 17 (.mov (T 5)), o 4 (.mov (T 17))]),
                    .ret])
                  .skip)])),
            (.reg [o 18 (.bin .add (T 8) (I 1)), o 8 (.mov (T 18))])])))]),
    (.reg [o 4 (.mov (I (-1)))]),
    .ret])
theorem ok179 : cfn Tryz.prog Tryz.f179 2 = some (s179, [.tmp 4]) := by kernel_rfl

/-! 180 (*impl.Boot).recover -/
def s180 : SCode :=
  (sqs [
    (.reg [o 2 (.mov (B false))]),
    (sqs [
      (.reg [o 5 (.mov (T 0)), o 6 (.nilchk (T 5)), o 7 (.fieldAddr 0 (T 6)), o 8 (.load false 1 (T 7)), o 9 (.call 221 [(T 8)]), o 10 (.len (T 9)), o 11 (.mov (I 0))]),
      (.block 0
        (.loop
          (sqs [
            (.reg [o 12 (.bin .lss (T 11) (T 10))]),
            (.cond (T 12)
              .skip
              (.exit 0)),
            (.block 1
              (sqs [
                (.reg [o 13 (.idxAddr 2 (T 9) (T 11)), o 14 (.load true 2 (T 13)), o 4 (.hole 2), o 4 (.birth 2 (T 4) (T 14))]),
                (sqs [
                  (.reg [o 15 (.mov (T 0)), o 16 (.call 222 [(T 15), (I 3)]), o 17 (.not (T 16))]),
                  (.cond (T 17)
                    (sqs [
                      (.reg [o 2 (.mov (B false))]),
                      .ret])
                    .skip)]),
                (.regD [o 18 (.mov (T 0)), o 19 (.nilchk (T 18)), o 20 (.fieldAddr 0 (T 19)), ⟨some 21, (.load false 1 (T 20)), none, 3, []⟩, o 22 (.fieldAddr 0 (T 4)), ⟨some 23, (.load false 1 (T 22)), none, 5, []⟩, o 24 (.fieldAddr 1 (T 4)), ⟨some 25, (.load false 1 (T 24)), none, 7, []⟩, o 26 (.idxAddr 1 (T 21) (T 23)), on_ (.store 1 (T 26) (T 25))])])),
            (.reg [o 27 (.bin .add (T 11) (I 1)), o 11 (.mov (T 27))])])))]),
    (.reg [o 2 (.mov (B true))]),
    .ret])
theorem ok180 : cfn Tryz.prog Tryz.f180 1 = some (s180, [.tmp 2]) := by kernel_rfl

/-! 181 (*impl.Boot).task -/
def s181 : SCode :=
  (sqs [
    (.reg [o 4 (.box 1 (T 1)), o 6 (.mov (B false))]),
    (.regD [o 10 (.load true 1 (T 4)), o 11 (.mov (T 0)), o 12 (.nilchk (T 11)), o 13 (.fieldAddr 0 (T 12)), ⟨some 14, (.load false 1 (T 13)), none, 4, []⟩, o 15 (.mov (T 2)), o 16 (.mov (T 0)), o 17 (.nilchk (T 16)), o 18 (.fieldAddr 1 (T 17)), ⟨some 19, (.load false 1 (T 18)), none, 9, []⟩, o 7 (.hole 2), o 20 (.call 92 [(T 10), (T 14), (T 15), (T 19)]), o 7 (.birth 2 (T 7) (T 20))]),
    (sqs [
      (.reg [o 21 (.fieldAddr 0 (T 7)), o 22 (.load false 1 (T 21)), o 23 (.len (T 22)), o 24 (.mov (I 0))]),
      (.block 0
        (.loop
          (sqs [
            (.reg [o 25 (.bin .lss (T 24) (T 23))]),
            (.cond (T 25)
              .skip
              (.exit 0)),
            (.block 1
              (sqs [
                (.reg [o 26 (.idxAddr 3 (T 22) (T 24)), o 27 (.load true 3 (T 26)), o 9 (.hole 3), o 9 (.birth 3 (T 9) (T 27))]),
                (sqs [
                  (.reg [o 28 (.mov (T 0)), o 29 (.fieldAddr 0 (T 9)), o 30 (.load false 1 (T 29)), o 31 (.call 222 [(T 28), (T 30)]), o 32 (.not (T 31))]),
                  (.cond (T 32)
                    (sqs [
                      (.reg [o 6 (.mov (B false))]),
                      .ret])
                    .skip)]),
                (sqs [
                  (.reg [o 33 (.load true 3 (T 9)), o 34 (.call 223 [(T 33)])]),
                  (.cond (T 34)
                    (.reg [o 35 (.mov (T 0)), o 36 (.nilchk (T 35)), o 37 (.fieldAddr 1 (T 36)), o 38 (.load false 1 (T 37)), o 39 (.bin .add (T 38) (I 1)), o 40 (.nilchk (T 35)), o 41 (.fieldAddr 1 (T 40)), on_ (.store 1 (T 41) (T 39))])
                    .skip)]),
                (.reg [o 42 (.fieldAddr 1 (T 9)), o 43 (.load false 1 (T 42)), o 44 (.bin .neq (T 43) (I (-1)))]),
                (.cond (T 44)
                  (.regD [o 45 (.mov (T 0)), o 46 (.nilchk (T 45)), o 47 (.fieldAddr 0 (T 46)), ⟨some 48, (.load false 1 (T 47)), none, 3, []⟩, o 49 (.fieldAddr 1 (T 9)), ⟨some 50, (.load false 1 (T 49)), none, 5, []⟩, o 51 (.fieldAddr 2 (T 9)), ⟨some 52, (.load false 1 (T 51)), none, 7, []⟩, o 53 (.idxAddr 1 (T 48) (T 50)), on_ (.store 1 (T 53) (T 52))])
                  .skip)])),
            (.reg [o 54 (.bin .add (T 24) (I 1)), o 24 (.mov (T 54))])])))]),
    (.regD [o 55 (.mov (T 0)), o 56 (.mov (T 0)), o 57 (.nilchk (T 56)), o 58 (.fieldAddr 2 (T 57)), ⟨some 59, (.load false 1 (T 58)), none, 4, []⟩, o 60 (.fieldAddr 1 (T 7)), ⟨some 61, (.load false 1 (T 60)), none, 6, []⟩, ⟨some 62, (.lit 1 1 [.nils] [(0, (T 61))]), none, 0, [4]⟩, o 63 (.append 1 24 (T 59) (T 62)), o 64 (.nilchk (T 55)), o 65 (.fieldAddr 2 (T 64)), on_ (.store 1 (T 65) (T 63))]),
    (.reg [o 6 (.mov (B true))]),
    .ret])
theorem ok181 : cfn Tryz.prog Tryz.f181 3 = some (s181, [.tmp 6]) := by kernel_rfl

/-! 182 spec.EnergiesOf -/
def s182 : SCode :=
  (sqs [
    (.reg [o 2 (.box 4 (T 0)), o 4 (.mov N), o 5 (.mov (B false))]),
    (.reg [o 8 (.lit 0 1 [(.int .i64 0)] []), o 6 (.mov (T 8))]),
    (sqs [
      (.reg [o 9 (.load true 4 (T 2)), o 10 (.mov (T 1)), o 11 (.call 224 [(T 9), (T 10)]), o 12 (.not (T 11))]),
      (.cond (T 12)
        (sqs [
          (.reg [o 13 (.mov (T 6)), o 4 (.mov (T 13)), o 5 (.mov (B false))]),
          .ret])
        .skip)]),
    (sqs [
      (.reg [o 7 (.mov (I 0))]),
      (.block 0
        (.loop
          (sqs [
            (sqs [
              (.reg [o 14 (.mov (T 7)), o 15 (.mov (T 1)), o 16 (.len (T 15)), o 17 (.bin .lss (T 14) (T 16))]),
              (.cond (T 17)
                .skip
                (.exit 0))]),
            (.block 1
              (sqs [
                (.regD [o 20 (.load true 4 (T 2)), o 21 (.mov (T 1)), o 22 (.mov (T 7)), o 23 (.idxAddr 1 (T 21) (T 22)), ⟨some 24, (.load false 1 (T 23)), none, 4, []⟩, o 25 (.call 225 [(T 20), (T 24)]), on_ (.store 4 (T 2) (T 25))]),
                (.reg [o 26 (.fieldAddr 0 (T 2)), o 27 (.load false 1 (T 26)), o 28 (.fieldAddr 2 (T 2)), o 29 (.load false 1 (T 28)), o 30 (.bin .geq (T 27) (T 29))]),
                (.cond (T 30)
                  (sqs [
                    (.reg [o 31 (.mov (T 6)), o 32 (.fieldAddr 0 (T 2)), o 33 (.load false 1 (T 32)), o 34 (.lit 1 1 [(.int .i64 0)] [(0, (T 33))]), o 35 (.append 1 8 (T 31) (T 34)), o 6 (.mov (T 35))]),
                    (.reg [o 36 (.fieldAddr 0 (T 2)), on_ (.store 1 (T 36) (I 0))])])
                  .skip)])),
            (.reg [o 18 (.mov (T 7)), o 19 (.bin .add (T 18) (I 1)), o 7 (.mov (T 19))])])))]),
    (.reg [o 37 (.mov (T 6)), o 4 (.mov (T 37)), o 5 (.mov (B true))]),
    .ret])
theorem ok182 : cfn Tryz.prog Tryz.f182 2 = some (s182, [.tmp 4, .tmp 5]) := by kernel_rfl

/-! 183 spec.l17Ok -/
def s183 : SCode :=
  (sqs [
    (.reg [o 4 (.box 1 (T 0)), o 8 (.mov (B false))]),
    (sqs [
      (.reg [o 10 (.load true 1 (T 4)), o 11 (.mov (T 1)), o 12 (.call 226 [(T 10), (T 11)]), o 13 (.not (T 12)), o 14 (.mov (T 13)), og 15 (.mov (T 2)) 14 false, og 16 (.call 227 [(T 15)]) 14 false, og 17 (.not (T 16)) 14 false, o 18 (.pick (T 14) (B true) (T 17)), o 19 (.mov (T 18)), og 20 (.mov (T 3)) 19 false, og 21 (.len (T 20)) 19 false, og 22 (.bin .gtr (T 21) (I 60)) 19 false, o 23 (.pick (T 19) (B true) (T 22))]),
      (.cond (T 23)
        (sqs [
          (.reg [o 8 (.mov (B false))]),
          .ret])
        .skip)]),
    (sqs [
      (.reg [o 9 (.mov (I 0))]),
      (.block 0
        (.loop
          (sqs [
            (sqs [
              (.reg [o 24 (.mov (T 9)), o 25 (.mov (T 3)), o 26 (.len (T 25)), o 27 (.bin .lss (T 24) (T 26))]),
              (.cond (T 27)
                .skip
                (.exit 0))]),
            (.block 1
              (sqs [
                (.reg [o 30 (.mov (T 3)), o 31 (.mov (T 9)), o 32 (.idxAddr 1 (T 30) (T 31)), o 33 (.load false 1 (T 32)), o 34 (.call 99 [(T 33), (I 0), (I 5000)]), o 35 (.not (T 34))]),
                (.cond (T 35)
                  (sqs [
                    (.reg [o 8 (.mov (B false))]),
                    .ret])
                  .skip)])),
            (.reg [o 28 (.mov (T 9)), o 29 (.bin .add (T 28) (I 1)), o 9 (.mov (T 29))])])))]),
    (.reg [o 8 (.mov (B true))]),
    .ret])
theorem ok183 : cfn Tryz.prog Tryz.f183 4 = some (s183, [.tmp 8]) := by kernel_rfl

/-! 184 spec.l17Run -/
def s184 : SCode :=
  (sqs [
    (.reg [o 4 (.box 1 (T 0)), o 8 (.zero [.nils, (.int .i64 0), .nils, .nils])]),
    (.reg [o 12 (.lit 0 1 [(.int .i64 0)] []), o 13 (.mov (T 1)), o 14 (.append 1 8 (T 12) (T 13)), o 15 (.build [.nils, (.int .i64 0), .nils, .nils] [(0, 1, (T 14))]), o 9 (.hole 4), o 9 (.birth 4 (T 9) (T 15))]),
    (sqs [
      (.reg [o 10 (.mov (I 0))]),
      (.block 0
        (.loop
          (sqs [
            (sqs [
              (.reg [o 16 (.mov (T 10)), o 17 (.mov (T 3)), o 18 (.len (T 17)), o 19 (.bin .lss (T 16) (T 18))]),
              (.cond (T 19)
                .skip
                (.exit 0))]),
            (.block 1
              (sqs [
                (.regD [o 22 (.load true 1 (T 4)), o 23 (.fieldAddr 0 (T 9)), ⟨some 24, (.load false 1 (T 23)), none, 2, []⟩, o 25 (.mov (T 2)), o 26 (.fieldAddr 1 (T 9)), ⟨some 27, (.load false 1 (T 26)), none, 5, []⟩, o 28 (.mov (T 3)), o 29 (.mov (T 10)), o 30 (.idxAddr 1 (T 28) (T 29)), ⟨some 31, (.load false 1 (T 30)), none, 9, []⟩, o 11 (.hole 4), o 32 (.call 228 [(T 22), (T 24), (T 25), (T 27), (T 31)]), o 11 (.birth 4 (T 11) (T 32))]),
                (.reg [o 33 (.fieldAddr 0 (T 11)), o 34 (.load false 1 (T 33)), o 35 (.fieldAddr 0 (T 9)), on_ (.store 1 (T 35) (T 34))]),
                (.reg [o 36 (.fieldAddr 1 (T 11)), o 37 (.load false 1 (T 36)), o 38 (.fieldAddr 1 (T 9)), on_ (.store 1 (T 38) (T 37))]),
                (.reg [o 39 (.fieldAddr 2 (T 9)), o 40 (.load false 1 (T 39)), o 41 (.fieldAddr 2 (T 11)), o 42 (.load false 1 (T 41)), o 43 (.append 1 24 (T 40) (T 42)), o 44 (.fieldAddr 2 (T 9)), on_ (.store 1 (T 44) (T 43))]),
                (.reg [o 45 (.fieldAddr 3 (T 9)), o 46 (.load false 1 (T 45)), o 47 (.fieldAddr 2 (T 11)), o 48 (.load false 1 (T 47)), o 49 (.len (T 48)), o 50 (.lit 1 1 [(.int .i64 0)] [(0, (T 49))]), o 51 (.append 1 8 (T 46) (T 50)), o 52 (.fieldAddr 3 (T 9)), on_ (.store 1 (T 52) (T 51))])])),
            (.reg [o 20 (.mov (T 10)), o 21 (.bin .add (T 20) (I 1)), o 10 (.mov (T 21))])])))]),
    (.reg [o 53 (.load true 4 (T 9)), on_ (.store 4 (T 8) (T 53))]),
    .ret])
theorem ok184 : cfn Tryz.prog Tryz.f184 4 = some (s184, [.cell 8 true 4]) := by kernel_rfl

/-! 188 impl.areHarvests -/
def s188 : SCode :=
  (sqs [
    (.reg [o 2 (.mov (B false))]),
    (.reg [o 3 (.mov (T 0)), o 4 (.call 112 [(T 3), (.val (.fn 232 []))]), o 5 (.not (T 4)), o 2 (.mov (T 5))]),
    .ret])
theorem ok188 : cfn Tryz.prog Tryz.f188 1 = some (s188, [.tmp 2]) := by kernel_rfl

/-! 189 (*impl.Store).tick -/
def s189 : SCode :=
  (.regD [o 4 (.mov (T 0)), o 5 (.mov (T 0)), o 6 (.nilchk (T 5)), o 7 (.fieldAddr 0 (T 6)), ⟨some 8, (.load false 1 (T 7)), none, 4, []⟩, o 9 (.mov (T 1)), o 10 (.bin .add (T 8) (T 9)), o 11 (.mov (T 0)), o 12 (.nilchk (T 11)), o 13 (.fieldAddr 3 (T 12)), ⟨some 14, (.load false 1 (T 13)), none, 10, []⟩, o 15 (.bin .sub (T 10) (T 14)), o 16 (.mov (T 0)), o 17 (.nilchk (T 16)), o 18 (.fieldAddr 1 (T 17)), ⟨some 19, (.load false 1 (T 18)), none, 15, []⟩, o 20 (.call 234 [(T 15), (I 0), (T 19)]), o 21 (.nilchk (T 4)), o 22 (.fieldAddr 0 (T 21)), on_ (.store 1 (T 22) (T 20))])
theorem ok189 : cfn Tryz.prog Tryz.f189 2 = some (s189, []) := by kernel_rfl

/-! 190 impl.hasVar -/
def s190 : SCode :=
  (sqs [
    (.reg [o 2 (.mov (B false))]),
    (.reg [o 3 (.mov (T 0)), o 4 (.bin .eql (T 3) (I 1)), o 5 (.mov (T 4)), og 6 (.mov (T 0)) 5 false, og 7 (.bin .eql (T 6) (I 2)) 5 false, o 8 (.pick (T 5) (B true) (T 7)), o 2 (.mov (T 8))]),
    .ret])
theorem ok190 : cfn Tryz.prog Tryz.f190 1 = some (s190, [.tmp 2]) := by kernel_rfl

/-! 191 impl.hasExpr -/
def s191 : SCode :=
  (sqs [
    (.reg [o 2 (.mov (B false))]),
    (.reg [o 3 (.mov (T 0)), o 4 (.bin .eql (T 3) (I 1)), o 5 (.mov (T 4)), og 6 (.mov (T 0)) 5 false, og 7 (.bin .eql (T 6) (I 3)) 5 false, o 8 (.pick (T 5) (B true) (T 7)), o 9 (.mov (T 8)), og 10 (.mov (T 0)) 9 false, og 11 (.bin .eql (T 10) (I 4)) 9 false, o 12 (.pick (T 9) (B true) (T 11)), o 2 (.mov (T 12))]),
    .ret])
theorem ok191 : cfn Tryz.prog Tryz.f191 1 = some (s191, [.tmp 2]) := by kernel_rfl

/-! 192 impl.isSensor -/
def s192 : SCode :=
  (sqs [
    (.reg [o 2 (.mov (B false))]),
    (.reg [o 3 (.mov (T 0)), o 4 (.call 114 [(T 3), (I 0), (I 3)]), o 2 (.mov (T 4))]),
    .ret])
theorem ok192 : cfn Tryz.prog Tryz.f192 1 = some (s192, [.tmp 2]) := by kernel_rfl

/-! 193 spec.l04Plain -/
def s193 : SCode :=
  (sqs [
    (.reg [o 1 (.box 6 (T 0)), o 2 (.zero [(.int .i64 0), (.int .i64 0), (.int .i64 0), (.int .i64 0), (.int .i64 0), (.int .i64 0)])]),
    (.reg [o 4 (.fieldAddr 0 (T 1)), o 5 (.load false 1 (T 4)), o 6 (.build [(.int .i64 0), (.int .i64 0), (.int .i64 0), (.int .i64 0), (.int .i64 0), (.int .i64 0)] [(0, 1, (T 5))]), o 3 (.hole 6), o 3 (.birth 6 (T 3) (T 6))]),
    (sqs [
      (.reg [o 7 (.fieldAddr 0 (T 1)), o 8 (.load false 1 (T 7))]),
      (.block 0
        (sqs [
          (.reg [o 10 (.bin .eql (T 8) (I 1)), o 9 (.mov (T 10))]),
          (.cond (T 9)
            (sqs [
              (.reg [o 11 (.fieldAddr 1 (T 1)), o 12 (.load false 1 (T 11)), o 13 (.fieldAddr 1 (T 3)), on_ (.store 1 (T 13) (T 12))]),
              (.reg [o 14 (.fieldAddr 3 (T 1)), o 15 (.load true 3 (T 14)), o 16 (.fieldAddr 3 (T 3)), on_ (.store 3 (T 16) (T 15))])])
            (sqs [
              (.reg [o 18 (.bin .eql (T 8) (I 2)), o 17 (.mov (T 18))]),
              (.cond (T 17)
                (sqs [
                  (.reg [o 19 (.fieldAddr 1 (T 1)), o 20 (.load false 1 (T 19)), o 21 (.fieldAddr 1 (T 3)), on_ (.store 1 (T 21) (T 20))]),
                  (.reg [o 22 (.fieldAddr 2 (T 1)), o 23 (.load false 1 (T 22)), o 24 (.fieldAddr 2 (T 3)), on_ (.store 1 (T 24) (T 23))])])
                (sqs [
                  (sqs [
                    (.reg [o 26 (.bin .eql (T 8) (I 3)), o 25 (.mov (T 26))]),
                    (.cond (T 25)
                      .skip
                      (.reg [o 27 (.bin .eql (T 8) (I 4)), o 25 (.mov (T 27))]))]),
                  (.cond (T 25)
                    (.reg [o 28 (.fieldAddr 3 (T 1)), o 29 (.load true 3 (T 28)), o 30 (.fieldAddr 3 (T 3)), on_ (.store 3 (T 30) (T 29))])
                    (sqs [
                      (.reg [o 32 (.bin .eql (T 8) (I 5)), o 31 (.mov (T 32))]),
                      (.cond (T 31)
                        (.reg [o 33 (.fieldAddr 2 (T 1)), o 34 (.load false 1 (T 33)), o 35 (.fieldAddr 2 (T 3)), on_ (.store 1 (T 35) (T 34))])
                        .skip)]))]))]))]))]),
    (.reg [o 36 (.load true 6 (T 3)), on_ (.store 6 (T 2) (T 36))]),
    .ret])
theorem ok193 : cfn Tryz.prog Tryz.f193 1 = some (s193, [.cell 2 true 6]) := by kernel_rfl

/-! 195 slices.Compact[[]int,int] -/
def s195 : SCode :=
  (sqs [
    (.reg [o 2 (.mov N)]),
    (sqs [
      (.reg [o 6 (.mov (T 0)), o 7 (.len (T 6)), o 8 (.bin .lss (T 7) (I 2))]),
      (.cond (T 8)
        (sqs [
          (.reg [o 9 (.mov (T 0)), o 2 (.mov (T 9))]),
          .ret])
        .skip)]),
    (sqs [
      (.reg [o 3 (.mov (I 1))]),
      (.block 0
        (.loop
          (sqs [
            (sqs [
              (.reg [o 10 (.mov (T 3)), o 11 (.mov (T 0)), o 12 (.len (T 11)), o 13 (.bin .lss (T 10) (T 12))]),
              (.cond (T 13)
                .skip
                (.exit 0))]),
            (.block 1
              (sqs [
                (.regD [o 16 (.mov (T 0)), o 17 (.mov (T 3)), o 18 (.idxAddr 1 (T 16) (T 17)), ⟨some 19, (.load false 1 (T 18)), none, 3, []⟩, o 20 (.mov (T 0)), o 21 (.mov (T 3)), o 22 (.bin .sub (T 21) (I 1)), o 23 (.idxAddr 1 (T 20) (T 22)), ⟨some 24, (.load false 1 (T 23)), none, 8, []⟩, o 25 (.bin .eql (T 19) (T 24))]),
                (.cond (T 25)
                  (sqs [
                    (.reg [o 26 (.mov (T 0)), o 27 (.mov (T 3)), o 28 (.slice 1 (T 26) (some (T 27)) none), o 4 (.mov (T 28))]),
                    (sqs [
                      (.reg [o 5 (.mov (I 1))]),
                      (.block 2
                        (.loop
                          (sqs [
                            (sqs [
                              (.reg [o 29 (.mov (T 5)), o 30 (.mov (T 4)), o 31 (.len (T 30)), o 32 (.bin .lss (T 29) (T 31))]),
                              (.cond (T 32)
                                .skip
                                (.exit 2))]),
                            (.block 3
                              (sqs [
                                (.regD [o 35 (.mov (T 4)), o 36 (.mov (T 5)), o 37 (.idxAddr 1 (T 35) (T 36)), ⟨some 38, (.load false 1 (T 37)), none, 3, []⟩, o 39 (.mov (T 4)), o 40 (.mov (T 5)), o 41 (.bin .sub (T 40) (I 1)), o 42 (.idxAddr 1 (T 39) (T 41)), ⟨some 43, (.load false 1 (T 42)), none, 8, []⟩, o 44 (.bin .neq (T 38) (T 43))]),
                                (.cond (T 44)
                                  (sqs [
                                    (.reg [o 45 (.mov (T 0)), o 46 (.mov (T 3)), o 47 (.mov (T 4)), o 48 (.mov (T 5)), o 49 (.idxAddr 1 (T 47) (T 48)), o 50 (.load false 1 (T 49)), o 51 (.idxAddr 1 (T 45) (T 46)), on_ (.store 1 (T 51) (T 50))]),
                                    (.reg [o 52 (.mov (T 3)), o 53 (.bin .add (T 52) (I 1)), o 3 (.mov (T 53))])])
                                  .skip)])),
                            (.reg [o 33 (.mov (T 5)), o 34 (.bin .add (T 33) (I 1)), o 5 (.mov (T 34))])])))]),
                    (.reg [o 54 (.mov (T 0)), o 55 (.mov (T 3)), o 56 (.slice 1 (T 54) (some (T 55)) none), on_ (.clear 1 [(.int .i64 0)] (T 56))]),
                    (.reg [o 57 (.mov (T 0)), o 58 (.mov (T 3)), o 59 (.slice 1 (T 57) none (some (T 58))), o 2 (.mov (T 59))]),
                    .ret])
                  .skip)])),
            (.reg [o 14 (.mov (T 3)), o 15 (.bin .add (T 14) (I 1)), o 3 (.mov (T 15))])])))]),
    (.reg [o 60 (.mov (T 0)), o 2 (.mov (T 60))]),
    .ret])
theorem ok195 : cfn Tryz.prog Tryz.f195 1 = some (s195, [.tmp 2]) := by kernel_rfl

/-! 196 impl.operand -/
def s196 : SCode :=
  (sqs [
    (.reg [o 4 (.mov (I 0))]),
    (sqs [
      (.reg [o 5 (.mov (T 1)), o 6 (.bin .lss (T 5) (I 0))]),
      (.cond (T 6)
        (sqs [
          (.reg [o 7 (.mov (T 0)), o 8 (.mov (T 1)), o 9 (.bin .sub (I (-1)) (T 8)), o 10 (.idxAddr 1 (T 7) (T 9)), o 11 (.load false 1 (T 10)), o 4 (.mov (T 11))]),
          .ret])
        .skip)]),
    (.reg [o 12 (.mov (T 1)), o 4 (.mov (T 12))]),
    .ret])
theorem ok196 : cfn Tryz.prog Tryz.f196 2 = some (s196, [.tmp 4]) := by kernel_rfl

/-! 197 impl.AddValues -/
def s197 : SCode :=
  (sqs [
    (.reg [o 4 (.mov (I 0))]),
    (.reg [o 5 (.mov (T 0)), o 6 (.call 237 [(T 5)]), o 7 (.mov (T 1)), o 8 (.call 237 [(T 7)]), o 9 (.bin .add (T 6) (T 8)), o 10 (.call 237 [(T 9)]), o 4 (.mov (T 10))]),
    .ret])
theorem ok197 : cfn Tryz.prog Tryz.f197 2 = some (s197, [.tmp 4]) := by kernel_rfl

/-! 198 impl.SubValues -/
def s198 : SCode :=
  (sqs [
    (.reg [o 4 (.mov (I 0))]),
    (.reg [o 5 (.mov (T 0)), o 6 (.call 237 [(T 5)]), o 7 (.mov (T 1)), o 8 (.call 237 [(T 7)]), o 9 (.bin .sub (T 6) (T 8)), o 10 (.call 237 [(T 9)]), o 4 (.mov (T 10))]),
    .ret])
theorem ok198 : cfn Tryz.prog Tryz.f198 2 = some (s198, [.tmp 4]) := by kernel_rfl

/-! 199 impl.MulValues -/
def s199 : SCode :=
  (sqs [
    (.reg [o 4 (.mov (I 0))]),
    (.reg [o 5 (.mov (T 0)), o 6 (.call 237 [(T 5)]), o 7 (.mov (T 1)), o 8 (.call 237 [(T 7)]), o 9 (.bin .mul (T 6) (T 8)), o 10 (.call 237 [(T 9)]), o 4 (.mov (T 10))]),
    .ret])
theorem ok199 : cfn Tryz.prog Tryz.f199 2 = some (s199, [.tmp 4]) := by kernel_rfl

/-! 200 impl.OperandOk -/
def s200 : SCode :=
  (sqs [
    (.reg [o 2 (.mov (B false))]),
    (.reg [o 3 (.mov (T 0)), o 4 (.call 114 [(T 3), (I (-8)), (I 999)]), o 2 (.mov (T 4))]),
    .ret])
theorem ok200 : cfn Tryz.prog Tryz.f200 1 = some (s200, [.tmp 2]) := by kernel_rfl

/-! 201 (*impl.reader).pass -/
def s201 : SCode :=
  (sqs [
    (.reg [o 4 (.mov (I 0))]),
    (.block 0
      (.loop
        (sqs [
          (sqs [
            (.reg [o 8 (.mov (T 4)), o 9 (.mov (T 1)), o 10 (.len (T 9)), o 11 (.bin .lss (T 8) (T 10))]),
            (.cond (T 11)
              .skip
              (.exit 0))]),
          (.block 1
            (sqs [
              (.reg [o 14 (.mov (T 1)), o 15 (.mov (T 4)), o 16 (.idxAddr 6 (T 14) (T 15)), o 17 (.load true 6 (T 16)), o 5 (.hole 6), o 5 (.birth 6 (T 5) (T 17))]),
              (sqs [
                (.reg [o 18 (.fieldAddr 0 (T 5)), o 19 (.load false 1 (T 18)), o 20 (.call 191 [(T 19)])]),
                (.cond (T 20)
                  (.reg [o 21 (.mov (T 0)), o 22 (.fieldAddr 3 (T 5)), o 23 (.load true 3 (T 22)), o 24 (.call 202 [(T 21), (T 23)])])
                  .skip)]),
              (sqs [
                (.reg [o 25 (.fieldAddr 0 (T 5)), o 26 (.load false 1 (T 25)), o 27 (.call 190 [(T 26)])]),
                (.cond (T 27)
                  (.regD [o 28 (.mov (T 0)), o 29 (.fieldAddr 1 (T 5)), ⟨some 30, (.load false 1 (T 29)), none, 2, []⟩, o 31 (.nilchk (T 28)), o 32 (.fieldAddr 0 (T 31)), o 33 (.arrAddr 8 1 (T 32) (T 30)), on_ (.store 1 (T 33) (B true))])
                  .skip)]),
              (.reg [o 34 (.fieldAddr 0 (T 5)), o 35 (.load false 1 (T 34)), o 36 (.bin .eql (T 35) (I 4))]),
              (.cond (T 36)
                (sqs [
                  (.reg [o 37 (.mov (T 1)), o 38 (.mov (T 4)), o 39 (.call 161 [(T 37), (T 38)]), o 6 (.mov (T 39))]),
                  (.reg [o 40 (.mov (T 0)), o 41 (.nilchk (T 40)), o 42 (.fieldAddr 0 (T 41)), o 43 (.load true 8 (T 42)), o 7 (.hole 8), o 7 (.birth 8 (T 7) (T 43))]),
                  (.reg [o 44 (.mov (T 0)), o 45 (.mov (T 1)), o 46 (.mov (T 4)), o 47 (.bin .add (T 46) (I 1)), o 48 (.mov (T 6)), o 49 (.slice 6 (T 45) (some (T 47)) (some (T 48))), o 50 (.call 201 [(T 44), (T 49)])]),
                  (.reg [o 51 (.mov (T 0)), o 52 (.load true 8 (T 7)), o 53 (.nilchk (T 51)), o 54 (.fieldAddr 0 (T 53)), on_ (.store 8 (T 54) (T 52))]),
                  (.reg [o 55 (.mov (T 6)), o 4 (.mov (T 55))])])
                .skip)])),
          (.reg [o 12 (.mov (T 4)), o 13 (.bin .add (T 12) (I 1)), o 4 (.mov (T 13))])])))])
theorem ok201 : cfn Tryz.prog Tryz.f201 2 = some (s201, []) := by kernel_rfl

/-! 202 (*impl.reader).read -/
def s202 : SCode :=
  (sqs [
    (.reg [o 3 (.box 3 (T 1))]),
    (.reg [o 6 (.load true 3 (T 3)), o 7 (.call 140 [(T 6)]), o 8 (.len (T 7)), o 9 (.mov (I 0))]),
    (.block 0
      (.loop
        (sqs [
          (.reg [o 10 (.bin .lss (T 9) (T 8))]),
          (.cond (T 10)
            .skip
            (.exit 0)),
          (.block 1
            (sqs [
              (.reg [o 11 (.idxAddr 1 (T 7) (T 9)), o 12 (.load false 1 (T 11)), o 5 (.mov (T 12))]),
              (.reg [o 13 (.mov (T 0)), o 14 (.mov (T 5)), o 15 (.nilchk (T 13)), o 16 (.fieldAddr 0 (T 15)), o 17 (.arrAddr 8 1 (T 16) (T 14)), o 18 (.load false 1 (T 17)), o 19 (.not (T 18))]),
              (.cond (T 19)
                (.reg [o 20 (.mov (T 0)), o 21 (.mov (T 5)), o 22 (.nilchk (T 20)), o 23 (.fieldAddr 8 (T 22)), o 24 (.arrAddr 8 1 (T 23) (T 21)), on_ (.store 1 (T 24) (B true))])
                .skip)])),
          (.reg [o 25 (.bin .add (T 9) (I 1)), o 9 (.mov (T 25))])])))])
theorem ok202 : cfn Tryz.prog Tryz.f202 2 = some (s202, []) := by kernel_rfl

/-! 203 impl.written -/
def s203 : SCode :=
  (sqs [
    (.reg [o 4 (.mov N)]),
    (.reg [o 8 (.lit 0 1 [(.int .i64 0)] []), o 5 (.mov (T 8))]),
    (sqs [
      (.reg [o 9 (.mov (T 0)), o 10 (.len (T 9)), o 11 (.mov (I 0))]),
      (.block 0
        (.loop
          (sqs [
            (.reg [o 12 (.bin .lss (T 11) (T 10))]),
            (.cond (T 12)
              .skip
              (.exit 0)),
            (.block 1
              (sqs [
                (.reg [o 13 (.mov (T 11)), o 14 (.idxAddr 6 (T 9) (T 11)), o 15 (.load true 6 (T 14)), o 7 (.hole 6), o 6 (.mov (T 13)), o 7 (.birth 6 (T 7) (T 15))]),
                (.reg [o 16 (.fieldAddr 0 (T 7)), o 17 (.load false 1 (T 16)), o 18 (.call 190 [(T 17)]), o 19 (.mov (T 18)), og 20 (.mov (T 1)) 19 true, og 21 (.mov (T 6)) 19 true, og 22 (.callv (T 20) [(T 21)]) 19 true, o 23 (.pick (T 19) (T 22) (B false))]),
                (.cond (T 23)
                  (.reg [o 24 (.mov (T 5)), o 25 (.fieldAddr 1 (T 7)), o 26 (.load false 1 (T 25)), o 27 (.lit 1 1 [(.int .i64 0)] [(0, (T 26))]), o 28 (.append 1 8 (T 24) (T 27)), o 5 (.mov (T 28))])
                  .skip)])),
            (.reg [o 29 (.bin .add (T 11) (I 1)), o 11 (.mov (T 29))])])))]),
    (.reg [o 30 (.mov (T 5)), o 31 (.call 194 [(T 30)])]),
    (.reg [o 32 (.mov (T 5)), o 33 (.call 195 [(T 32)]), o 4 (.mov (T 33))]),
    .ret])
theorem ok203 : cfn Tryz.prog Tryz.f203 2 = some (s203, [.tmp 4]) := by kernel_rfl

/-! 204 impl.MustWrite$1 -/
def s204 : SCode :=
  (sqs [
    (.reg [o 3 (.mov (B false))]),
    (.reg [o 4 (.load false 1 (T 1)), o 5 (.mov (T 0)), o 6 (.idxAddr 1 (T 4) (T 5)), o 7 (.load false 1 (T 6)), o 8 (.not (T 7)), o 3 (.mov (T 8))]),
    .ret])
theorem ok204 : cfn Tryz.prog Tryz.f204 2 = some (s204, [.tmp 3]) := by kernel_rfl

/-! 205 impl.MayWrite$1 -/
def s205 : SCode :=
  (sqs [
    (.reg [o 2 (.mov (B false))]),
    (.reg [o 2 (.mov (B true))]),
    .ret])
theorem ok205 : cfn Tryz.prog Tryz.f205 1 = some (s205, [.tmp 2]) := by kernel_rfl

/-! 206 laws.szStmtS -/
def s206 : SCode :=
  (sqs [
    (.reg [o 4 (.mov (I 0))]),
    (.reg [o 5 (.mov (T 1)), o 6 (.mov (T 0)), o 7 (.len (T 6)), o 8 (.bin .sub (T 5) (T 7)), o 1 (.mov (T 8))]),
    (sqs [
      (.reg [o 9 (.mov (T 1)), o 10 (.bin .lss (T 9) (I 0))]),
      (.cond (T 10)
        (sqs [
          (.reg [o 4 (.mov (I (-1)))]),
          .ret])
        .skip)]),
    (.reg [o 11 (.mov (T 1)), o 4 (.mov (T 11))]),
    .ret])
theorem ok206 : cfn Tryz.prog Tryz.f206 2 = some (s206, [.tmp 4]) := by kernel_rfl

/-! 207 spec.l03Value -/
def s207 : SCode :=
  (sqs [
    (.reg [o 4 (.mov (I 0))]),
    (sqs [
      (.reg [o 5 (.mov (T 1)), o 6 (.bin .lss (T 5) (I 0))]),
      (.cond (T 6)
        (sqs [
          (.reg [o 7 (.mov (T 0)), o 8 (.mov (T 1)), o 9 (.bin .sub (I (-1)) (T 8)), o 10 (.idxAddr 1 (T 7) (T 9)), o 11 (.load false 1 (T 10)), o 4 (.mov (T 11))]),
          .ret])
        .skip)]),
    (.reg [o 12 (.mov (T 1)), o 4 (.mov (T 12))]),
    .ret])
theorem ok207 : cfn Tryz.prog Tryz.f207 2 = some (s207, [.tmp 4]) := by kernel_rfl

/-! 208 spec.AddValues -/
def s208 : SCode :=
  (sqs [
    (.reg [o 4 (.mov (I 0))]),
    (.reg [o 5 (.mov (T 0)), o 6 (.call 238 [(T 5)]), o 7 (.mov (T 1)), o 8 (.call 238 [(T 7)]), o 9 (.bin .add (T 6) (T 8)), o 10 (.call 238 [(T 9)]), o 4 (.mov (T 10))]),
    .ret])
theorem ok208 : cfn Tryz.prog Tryz.f208 2 = some (s208, [.tmp 4]) := by kernel_rfl

/-! 209 spec.SubValues -/
def s209 : SCode :=
  (sqs [
    (.reg [o 4 (.mov (I 0))]),
    (.reg [o 5 (.mov (T 0)), o 6 (.call 238 [(T 5)]), o 7 (.mov (T 1)), o 8 (.call 238 [(T 7)]), o 9 (.bin .sub (T 6) (T 8)), o 10 (.call 238 [(T 9)]), o 4 (.mov (T 10))]),
    .ret])
theorem ok209 : cfn Tryz.prog Tryz.f209 2 = some (s209, [.tmp 4]) := by kernel_rfl

/-! 210 spec.MulValues -/
def s210 : SCode :=
  (sqs [
    (.reg [o 4 (.mov (I 0))]),
    (.reg [o 5 (.mov (T 0)), o 6 (.call 238 [(T 5)]), o 7 (.mov (T 1)), o 8 (.call 238 [(T 7)]), o 9 (.bin .mul (T 6) (T 8)), o 10 (.call 238 [(T 9)]), o 4 (.mov (T 10))]),
    .ret])
theorem ok210 : cfn Tryz.prog Tryz.f210 2 = some (s210, [.tmp 4]) := by kernel_rfl

/-! 211 spec.l03Bit -/
def s211 : SCode :=
  (sqs [
    (.reg [o 2 (.mov (I 0))]),
    (sqs [
      (.reg [o 3 (.mov (T 0))]),
      (.cond (T 3)
        (sqs [
          (.reg [o 2 (.mov (I 1))]),
          .ret])
        .skip)]),
    (.reg [o 2 (.mov (I 0))]),
    .ret])
theorem ok211 : cfn Tryz.prog Tryz.f211 1 = some (s211, [.tmp 2]) := by kernel_rfl

/-! 212 laws.toStmtS -/
def s212 : SCode :=
  (sqs [
    (.reg [o 2 (.mov N)]),
    (.reg [o 5 (.mov (T 0)), o 6 (.len (T 5)), o 7 (.make 6 48 [(.int .i64 0), (.int .i64 0), (.int .i64 0), (.int .i64 0), (.int .i64 0), (.int .i64 0)] (T 6)), o 3 (.mov (T 7))]),
    (sqs [
      (.reg [o 4 (.mov (I 0))]),
      (.block 0
        (.loop
          (sqs [
            (sqs [
              (.reg [o 8 (.mov (T 4)), o 9 (.mov (T 0)), o 10 (.len (T 9)), o 11 (.bin .lss (T 8) (T 10))]),
              (.cond (T 11)
                .skip
                (.exit 0))]),
            (.block 1
              (.reg [o 14 (.mov (T 3)), o 15 (.mov (T 4)), o 16 (.mov (T 0)), o 17 (.mov (T 4)), o 18 (.idxAddr 6 (T 16) (T 17)), o 19 (.load true 6 (T 18)), o 20 (.call 239 [(T 19)]), o 21 (.idxAddr 6 (T 14) (T 15)), on_ (.store 6 (T 21) (T 20))])),
            (.reg [o 12 (.mov (T 4)), o 13 (.bin .add (T 12) (I 1)), o 4 (.mov (T 13))])])))]),
    (.reg [o 22 (.mov (T 3)), o 2 (.mov (T 22))]),
    .ret])
theorem ok212 : cfn Tryz.prog Tryz.f212 1 = some (s212, [.tmp 2]) := by kernel_rfl

/-! 213 laws.toExpr -/
def s213 : SCode :=
  (sqs [
    (.reg [o 1 (.box 3 (T 0)), o 2 (.zero [(.int .i64 0), (.int .i64 0), (.int .i64 0)])]),
    (.reg [o 3 (.zero [(.int .i64 0), (.int .i64 0), (.int .i64 0)])]),
    (.reg [o 4 (.fieldAddr 0 (T 1)), o 5 (.load false 1 (T 4)), o 6 (.fieldAddr 0 (T 3)), on_ (.store 1 (T 6) (T 5))]),
    (.reg [o 7 (.fieldAddr 1 (T 1)), o 8 (.load false 1 (T 7)), o 9 (.fieldAddr 1 (T 3)), on_ (.store 1 (T 9) (T 8))]),
    (.reg [o 10 (.fieldAddr 2 (T 1)), o 11 (.load false 1 (T 10)), o 12 (.fieldAddr 2 (T 3)), on_ (.store 1 (T 12) (T 11))]),
    (.reg [o 13 (.load true 3 (T 3)), on_ (.store 3 (T 2) (T 13))]),
    .ret])
theorem ok213 : cfn Tryz.prog Tryz.f213 1 = some (s213, [.cell 2 true 3]) := by kernel_rfl

/-! 214 laws.eqStmtS -/
def s214 : SCode :=
  (sqs [
    (.reg [o 4 (.mov (B false))]),
    (sqs [
      (.reg [o 6 (.mov (T 0)), o 7 (.len (T 6)), o 8 (.mov (T 1)), o 9 (.len (T 8)), o 10 (.bin .neq (T 7) (T 9))]),
      (.cond (T 10)
        (sqs [
          (.reg [o 4 (.mov (B false))]),
          .ret])
        .skip)]),
    (sqs [
      (.reg [o 5 (.mov (I 0))]),
      (.block 0
        (.loop
          (sqs [
            (sqs [
              (.reg [o 11 (.mov (T 5)), o 12 (.mov (T 0)), o 13 (.len (T 12)), o 14 (.bin .lss (T 11) (T 13))]),
              (.cond (T 14)
                .skip
                (.exit 0))]),
            (.block 1
              (sqs [
                (.regD [o 17 (.mov (T 0)), o 18 (.mov (T 5)), o 19 (.idxAddr 6 (T 17) (T 18)), ⟨some 20, (.load true 6 (T 19)), none, 3, []⟩, o 21 (.mov (T 1)), o 22 (.mov (T 5)), o 23 (.idxAddr 6 (T 21) (T 22)), ⟨some 24, (.load true 6 (T 23)), none, 7, []⟩, o 25 (.call 240 [(T 20), (T 24)]), o 26 (.not (T 25))]),
                (.cond (T 26)
                  (sqs [
                    (.reg [o 4 (.mov (B false))]),
                    .ret])
                  .skip)])),
            (.reg [o 15 (.mov (T 5)), o 16 (.bin .add (T 15) (I 1)), o 5 (.mov (T 16))])])))]),
    (.reg [o 4 (.mov (B true))]),
    .ret])
theorem ok214 : cfn Tryz.prog Tryz.f214 2 = some (s214, [.tmp 4]) := by kernel_rfl

/-! 215 laws.eqExpr -/
def s215 : SCode :=
  (sqs [
    (.reg [o 2 (.box 3 (T 0)), o 3 (.box 3 (T 1)), o 4 (.mov (B false))]),
    (sqs [
      (.reg [o 5 (.fieldAddr 0 (T 2)), o 6 (.load false 1 (T 5)), o 7 (.fieldAddr 0 (T 3)), o 8 (.load false 1 (T 7)), o 9 (.bin .neq (T 6) (T 8))]),
      (.cond (T 9)
        (sqs [
          (.reg [o 4 (.mov (B false))]),
          .ret])
        .skip)]),
    (sqs [
      (.reg [o 10 (.fieldAddr 1 (T 2)), o 11 (.load false 1 (T 10)), o 12 (.fieldAddr 1 (T 3)), o 13 (.load false 1 (T 12)), o 14 (.bin .neq (T 11) (T 13))]),
      (.cond (T 14)
        (sqs [
          (.reg [o 4 (.mov (B false))]),
          .ret])
        .skip)]),
    (sqs [
      (.reg [o 15 (.fieldAddr 2 (T 2)), o 16 (.load false 1 (T 15)), o 17 (.fieldAddr 2 (T 3)), o 18 (.load false 1 (T 17)), o 19 (.bin .neq (T 16) (T 18))]),
      (.cond (T 19)
        (sqs [
          (.reg [o 4 (.mov (B false))]),
          .ret])
        .skip)]),
    (.reg [o 4 (.mov (B true))]),
    .ret])
theorem ok215 : cfn Tryz.prog Tryz.f215 2 = some (s215, [.tmp 4]) := by kernel_rfl

/-! 216 spec.OperandOk -/
def s216 : SCode :=
  (sqs [
    (.reg [o 2 (.mov (B false))]),
    (.reg [o 3 (.mov (T 0)), o 4 (.call 99 [(T 3), (I (-8)), (I 999)]), o 2 (.mov (T 4))]),
    .ret])
theorem ok216 : cfn Tryz.prog Tryz.f216 1 = some (s216, [.tmp 2]) := by kernel_rfl

/-! 217 spec.BlockBound -/
def s217 : SCode :=
  (sqs [
    (.reg [o 1 (.box 4 (T 0)), o 2 (.mov (I 0))]),
    (sqs [
      (.reg [o 3 (.load true 4 (T 1)), o 4 (.call 175 [(T 3)]), o 5 (.not (T 4))]),
      (.cond (T 5)
        (sqs [
          (.reg [o 2 (.mov (I (-1)))]),
          .ret])
        .skip)]),
    (.reg [o 6 (.fieldAddr 0 (T 1)), o 7 (.load false 1 (T 6)), o 8 (.fieldAddr 0 (T 1)), o 9 (.load false 1 (T 8)), o 10 (.len (T 9)), o 11 (.call 241 [(T 7), (I 0), (T 10)]), o 2 (.mov (T 11))]),
    .ret])
theorem ok217 : cfn Tryz.prog Tryz.f217 1 = some (s217, [.tmp 2]) := by kernel_rfl

/-! 218 spec.MayWrite -/
def s218 : SCode :=
  (sqs [
    (.reg [o 2 (.mov N)]),
    (.reg [o 5 (.make 1 1 [(.bool false)] (I 8)), o 3 (.mov (T 5))]),
    (sqs [
      (.reg [o 4 (.mov (I 0))]),
      (.block 0
        (.loop
          (sqs [
            (sqs [
              (.reg [o 6 (.mov (T 4)), o 7 (.mov (T 0)), o 8 (.len (T 7)), o 9 (.bin .lss (T 6) (T 8)), o 10 (.mov (T 9)), og 11 (.mov (T 0)) 10 true, og 12 (.call 77 [(T 11)]) 10 true, o 13 (.pick (T 10) (T 12) (B false))]),
              (.cond (T 13)
                .skip
                (.exit 0))]),
            (.block 1
              (sqs [
                (.reg [o 16 (.mov (T 0)), o 17 (.mov (T 4)), o 18 (.idxAddr 6 (T 16) (T 17)), o 19 (.load true 6 (T 18)), o 20 (.call 242 [(T 19)])]),
                (.cond (T 20)
                  (.reg [o 21 (.mov (T 3)), o 22 (.mov (T 0)), o 23 (.mov (T 4)), o 24 (.idxAddr 6 (T 22) (T 23)), o 25 (.fieldAddr 1 (T 24)), o 26 (.load false 1 (T 25)), o 27 (.idxAddr 1 (T 21) (T 26)), on_ (.store 1 (T 27) (B true))])
                  .skip)])),
            (.reg [o 14 (.mov (T 4)), o 15 (.bin .add (T 14) (I 1)), o 4 (.mov (T 15))])])))]),
    (.reg [o 28 (.mov (T 3)), o 29 (.call 243 [(T 28)]), o 2 (.mov (T 29))]),
    .ret])
theorem ok218 : cfn Tryz.prog Tryz.f218 1 = some (s218, [.tmp 2]) := by kernel_rfl

/-! 219 spec.MustWrite -/
def s219 : SCode :=
  (sqs [
    (.reg [o 2 (.mov N)]),
    (.reg [o 5 (.make 1 1 [(.bool false)] (I 8)), o 3 (.mov (T 5))]),
    (sqs [
      (.reg [o 4 (.mov (I 0))]),
      (.block 0
        (.loop
          (sqs [
            (sqs [
              (.reg [o 6 (.mov (T 4)), o 7 (.mov (T 0)), o 8 (.len (T 7)), o 9 (.bin .lss (T 6) (T 8)), o 10 (.mov (T 9)), og 11 (.mov (T 0)) 10 true, og 12 (.call 77 [(T 11)]) 10 true, o 13 (.pick (T 10) (T 12) (B false))]),
              (.cond (T 13)
                .skip
                (.exit 0))]),
            (.block 1
              (sqs [
                (sqs [
                  (.reg [o 16 (.mov (T 0)), o 17 (.mov (T 4)), o 18 (.idxAddr 6 (T 16) (T 17)), o 19 (.fieldAddr 0 (T 18)), o 20 (.load false 1 (T 19)), o 21 (.bin .eql (T 20) (I 4))]),
                  (.cond (T 21)
                    (sqs [
                      (.reg [o 22 (.mov (T 0)), o 23 (.mov (T 4)), o 24 (.call 137 [(T 22), (T 23)]), o 4 (.mov (T 24))]),
                      (.exit 1)])
                    .skip)]),
                (.reg [o 25 (.mov (T 0)), o 26 (.mov (T 4)), o 27 (.idxAddr 6 (T 25) (T 26)), o 28 (.load true 6 (T 27)), o 29 (.call 242 [(T 28)])]),
                (.cond (T 29)
                  (.reg [o 30 (.mov (T 3)), o 31 (.mov (T 0)), o 32 (.mov (T 4)), o 33 (.idxAddr 6 (T 31) (T 32)), o 34 (.fieldAddr 1 (T 33)), o 35 (.load false 1 (T 34)), o 36 (.idxAddr 1 (T 30) (T 35)), on_ (.store 1 (T 36) (B true))])
                  .skip)])),
            (.reg [o 14 (.mov (T 4)), o 15 (.bin .add (T 14) (I 1)), o 4 (.mov (T 15))])])))]),
    (.reg [o 37 (.mov (T 3)), o 38 (.call 243 [(T 37)]), o 2 (.mov (T 38))]),
    .ret])
theorem ok219 : cfn Tryz.prog Tryz.f219 1 = some (s219, [.tmp 2]) := by kernel_rfl

/-! 220 spec.MayReadFirst -/
def s220 : SCode :=
  (sqs [
    (.reg [o 1 (.box 4 (T 0)), o 2 (.mov N)]),
    (.reg [o 5 (.make 1 1 [(.bool false)] (I 8)), o 3 (.mov (T 5))]),
    (sqs [
      (.reg [o 6 (.fieldAddr 0 (T 1)), o 7 (.load false 1 (T 6)), o 8 (.call 77 [(T 7)]), o 9 (.mov (T 8)), og 10 (.fieldAddr 1 (T 1)) 9 true, og 11 (.load true 3 (T 10)) 9 true, og 12 (.call 174 [(T 11)]) 9 true, o 13 (.pick (T 9) (T 12) (B false))]),
      (.cond (T 13)
        (sqs [
          (.reg [o 14 (.make 1 1 [(.bool false)] (I 8)), o 4 (.mov (T 14))]),
          (.reg [o 15 (.fieldAddr 0 (T 1)), o 16 (.load false 1 (T 15)), o 17 (.fieldAddr 0 (T 1)), o 18 (.load false 1 (T 17)), o 19 (.len (T 18)), o 20 (.mov (T 4)), o 21 (.mov (T 3)), o 22 (.call 244 [(T 16), (I 0), (T 19), (T 20), (T 21)])]),
          (.reg [o 23 (.mov (T 3)), o 24 (.mov (T 4)), o 25 (.fieldAddr 1 (T 1)), o 26 (.load true 3 (T 25)), o 27 (.call 245 [(T 23), (T 24), (T 26)])])])
        .skip)]),
    (.reg [o 28 (.mov (T 3)), o 29 (.call 243 [(T 28)]), o 2 (.mov (T 29))]),
    .ret])
theorem ok220 : cfn Tryz.prog Tryz.f220 1 = some (s220, [.tmp 2]) := by kernel_rfl

/-! 221 impl.RecoveryWrites -/
def s221 : SCode :=
  (sqs [
    (.reg [o 2 (.mov N)]),
    (sqs [
      (.reg [o 9 (.mov (T 0)), o 10 (.len (T 9)), o 11 (.bin .neq (T 10) (I 49))]),
      (.cond (T 11)
        (sqs [
          (.reg [o 2 (.mov N)]),
          .ret])
        .skip)]),
    (.reg [o 13 (.mov (T 0)), o 14 (.idxAddr 1 (T 13) (I 8)), o 15 (.load false 1 (T 14)), o 16 (.call 149 [(T 15)]), o 12 (.mov (T 16)), o 17 (.ext 0 (T 12)), o 18 (.ext 1 (T 12)), o 19 (.ext 2 (T 12)), o 3 (.mov (T 17)), o 4 (.mov (T 18)), o 5 (.mov (T 19))]),
    (sqs [
      (.reg [o 20 (.mov (T 4)), o 21 (.bin .lss (T 20) (I 1))]),
      (.cond (T 21)
        (sqs [
          (.reg [o 2 (.mov N)]),
          .ret])
        .skip)]),
    (.reg [o 22 (.lit 0 2 [(.int .i64 0), (.int .i64 0)] []), o 6 (.mov (T 22))]),
    (sqs [
      (.reg [o 23 (.mov (T 4)), o 24 (.bin .sub (T 23) (I 1)), o 7 (.mov (T 24))]),
      (.block 0
        (.loop
          (sqs [
            (sqs [
              (.reg [o 25 (.mov (T 7)), o 26 (.bin .geq (T 25) (I 0))]),
              (.cond (T 26)
                .skip
                (.exit 0))]),
            (.block 1
              (sqs [
                (.reg [o 29 (.mov (T 0)), o 30 (.mov (T 7)), o 31 (.bin .mul (I 2) (T 30)), o 32 (.bin .add (I 9) (T 31)), o 33 (.idxAddr 1 (T 29) (T 32)), o 34 (.load false 1 (T 33)), o 8 (.mov (T 34))]),
                (sqs [
                  (.reg [o 35 (.mov (T 8)), o 36 (.call 150 [(T 35)]), o 37 (.not (T 36))]),
                  (.cond (T 37)
                    (sqs [
                      (.reg [o 2 (.mov N)]),
                      .ret])
                    .skip)]),
                (.reg [o 38 (.mov (T 6)), o 39 (.mov (T 8)), o 40 (.mov (T 0)), o 41 (.mov (T 7)), o 42 (.bin .mul (I 2) (T 41)), o 43 (.bin .add (I 9) (T 42)), o 44 (.bin .add (T 43) (I 1)), o 45 (.idxAddr 1 (T 40) (T 44)), o 46 (.load false 1 (T 45)), o 47 (.build [(.int .i64 0), (.int .i64 0)] [(0, 1, (T 39)), (1, 1, (T 46))]), o 48 (.lit 1 2 [(.int .i64 0), (.int .i64 0)] [(0, (T 47))]), o 49 (.append 2 16 (T 38) (T 48)), o 6 (.mov (T 49))])])),
            (.reg [o 27 (.mov (T 7)), o 28 (.bin .sub (T 27) (I 1)), o 7 (.mov (T 28))])])))]),
    (.reg [o 50 (.mov (T 6)), o 51 (.mov (T 3)), o 52 (.mov (T 5)), o 53 (.call 159 [(T 51), (I 0), (T 52)]), o 54 (.build [(.int .i64 0), (.int .i64 0)] [(0, 1, (I 8)), (1, 1, (T 53))]), o 55 (.lit 1 2 [(.int .i64 0), (.int .i64 0)] [(0, (T 54))]), o 56 (.append 2 16 (T 50) (T 55)), o 2 (.mov (T 56))]),
    .ret])
theorem ok221 : cfn Tryz.prog Tryz.f221 1 = some (s221, [.tmp 2]) := by kernel_rfl

/-! 222 (*impl.Boot).spend -/
def s222 : SCode :=
  (sqs [
    (.reg [o 4 (.mov (B false))]),
    (sqs [
      (.reg [o 5 (.mov (T 0)), o 6 (.nilchk (T 5)), o 7 (.fieldAddr 3 (T 6)), o 8 (.load false 1 (T 7)), o 9 (.mov (T 1)), o 10 (.bin .lss (T 8) (T 9))]),
      (.cond (T 10)
        (sqs [
          (.reg [o 4 (.mov (B false))]),
          .ret])
        .skip)]),
    (.reg [o 11 (.mov (T 0)), o 12 (.nilchk (T 11)), o 13 (.fieldAddr 3 (T 12)), o 14 (.load false 1 (T 13)), o 15 (.mov (T 1)), o 16 (.bin .sub (T 14) (T 15)), o 17 (.nilchk (T 11)), o 18 (.fieldAddr 3 (T 17)), on_ (.store 1 (T 18) (T 16))]),
    (.reg [o 4 (.mov (B true))]),
    .ret])
theorem ok222 : cfn Tryz.prog Tryz.f222 2 = some (s222, [.tmp 4]) := by kernel_rfl

/-! 223 impl.isSenseStep -/
def s223 : SCode :=
  (sqs [
    (.reg [o 1 (.box 3 (T 0)), o 2 (.mov (B false))]),
    (.reg [o 3 (.fieldAddr 1 (T 1)), o 4 (.load false 1 (T 3)), o 5 (.bin .eql (T 4) (I (-1))), o 6 (.mov (T 5)), og 7 (.fieldAddr 0 (T 1)) 6 true, og 8 (.load false 1 (T 7)) 6 true, og 9 (.bin .eql (T 8) (I 5)) 6 true, o 10 (.pick (T 6) (T 9) (B false)), o 2 (.mov (T 10))]),
    .ret])
theorem ok223 : cfn Tryz.prog Tryz.f223 1 = some (s223, [.tmp 2]) := by kernel_rfl

/-! 224 spec.l20Ok -/
def s224 : SCode :=
  (sqs [
    (.reg [o 2 (.box 4 (T 0)), o 4 (.mov (B false))]),
    (.reg [o 5 (.load true 4 (T 2)), o 6 (.call 108 [(T 5)]), o 7 (.mov (T 6)), og 8 (.mov (T 1)) 7 true, og 9 (.len (T 8)) 7 true, og 10 (.bin .leq (T 9) (I 500)) 7 true, o 11 (.pick (T 7) (T 10) (B false)), o 12 (.mov (T 11)), og 13 (.mov (T 1)) 12 true, og 14 (.call 246 [(T 13)]) 12 true, o 15 (.pick (T 12) (T 14) (B false)), o 4 (.mov (T 15))]),
    .ret])
theorem ok224 : cfn Tryz.prog Tryz.f224 2 = some (s224, [.tmp 4]) := by kernel_rfl

/-! 225 spec.l19Tick -/
def s225 : SCode :=
  (sqs [
    (.reg [o 2 (.box 4 (T 0)), o 4 (.zero [(.int .i64 0), (.int .i64 0), (.int .i64 0), (.int .i64 0)])]),
    (.reg [o 5 (.fieldAddr 0 (T 2)), o 6 (.load false 1 (T 5)), o 7 (.mov (T 1)), o 8 (.bin .add (T 6) (T 7)), o 9 (.fieldAddr 3 (T 2)), o 10 (.load false 1 (T 9)), o 11 (.bin .sub (T 8) (T 10)), o 12 (.fieldAddr 1 (T 2)), o 13 (.load false 1 (T 12)), o 14 (.call 247 [(T 11), (I 0), (T 13)]), o 15 (.fieldAddr 0 (T 2)), on_ (.store 1 (T 15) (T 14))]),
    (.reg [o 16 (.load true 4 (T 2)), on_ (.store 4 (T 4) (T 16))]),
    .ret])
theorem ok225 : cfn Tryz.prog Tryz.f225 2 = some (s225, [.cell 4 true 4]) := by kernel_rfl

/-! 226 spec.MemOk -/
def s226 : SCode :=
  (sqs [
    (.reg [o 2 (.box 1 (T 0)), o 4 (.mov (B false))]),
    (sqs [
      (.reg [o 9 (.load true 1 (T 2)), o 10 (.call 107 [(T 9)]), o 11 (.not (T 10)), o 12 (.mov (T 11)), og 13 (.mov (T 1)) 12 false, og 14 (.len (T 13)) 12 false, og 15 (.bin .neq (T 14) (I 49)) 12 false, o 16 (.pick (T 12) (B true) (T 15))]),
      (.cond (T 16)
        (sqs [
          (.reg [o 4 (.mov (B false))]),
          .ret])
        .skip)]),
    (.reg [o 18 (.mov (T 1)), o 19 (.idxAddr 1 (T 18) (I 8)), o 20 (.load false 1 (T 19)), o 21 (.call 32 [(T 20)]), o 17 (.mov (T 21)), o 22 (.ext 0 (T 17)), o 23 (.ext 1 (T 17)), o 24 (.ext 2 (T 17)), o 5 (.mov (T 22)), o 6 (.mov (T 23)), o 7 (.mov (T 24))]),
    (sqs [
      (.reg [o 25 (.mov (T 5)), o 26 (.bin .lss (T 25) (I 0)), o 27 (.mov (T 26)), og 28 (.mov (T 5)) 27 false, og 29 (.fieldAddr 0 (T 2)) 27 false, og 30 (.load false 1 (T 29)) 27 false, og 31 (.len (T 30)) 27 false, og 32 (.bin .geq (T 28) (T 31)) 27 false, o 33 (.pick (T 27) (B true) (T 32)), o 34 (.mov (T 33)), og 35 (.mov (T 1)) 34 false, og 36 (.slice 1 (T 35) none (some (I 8))) 34 false, og 37 (.call 227 [(T 36)]) 34 false, og 38 (.not (T 37)) 34 false, o 39 (.pick (T 34) (B true) (T 38)), o 40 (.mov (T 39)), og 41 (.mov (T 1)) 40 false, og 42 (.mov (T 7)) 40 false, og 43 (.bin .add (I 25) (T 42)) 40 false, og 44 (.slice 1 (T 41) (some (I 25)) (some (T 43))) 40 false, og 45 (.call 227 [(T 44)]) 40 false, og 46 (.not (T 45)) 40 false, o 47 (.pick (T 40) (B true) (T 46))]),
      (.cond (T 47)
        (sqs [
          (.reg [o 4 (.mov (B false))]),
          .ret])
        .skip)]),
    (sqs [
      (.reg [o 8 (.mov (I 0))]),
      (.block 0
        (.loop
          (sqs [
            (sqs [
              (.reg [o 48 (.mov (T 8)), o 49 (.mov (T 6)), o 50 (.bin .lss (T 48) (T 49))]),
              (.cond (T 50)
                .skip
                (.exit 0))]),
            (.block 1
              (sqs [
                (.reg [o 53 (.mov (T 1)), o 54 (.mov (T 8)), o 55 (.bin .mul (I 2) (T 54)), o 56 (.bin .add (I 9) (T 55)), o 57 (.idxAddr 1 (T 53) (T 56)), o 58 (.load false 1 (T 57)), o 59 (.call 99 [(T 58), (I 0), (I 7)]), o 60 (.not (T 59)), o 61 (.mov (T 60)), og 62 (.mov (T 1)) 61 false, og 63 (.mov (T 8)) 61 false, og 64 (.bin .mul (I 2) (T 63)) 61 false, og 65 (.bin .add (I 9) (T 64)) 61 false, og 66 (.bin .add (T 65) (I 1)) 61 false, og 67 (.idxAddr 1 (T 62) (T 66)) 61 false, og 68 (.load false 1 (T 67)) 61 false, og 69 (.call 231 [(T 68)]) 61 false, og 70 (.not (T 69)) 61 false, o 71 (.pick (T 61) (B true) (T 70))]),
                (.cond (T 71)
                  (sqs [
                    (.reg [o 4 (.mov (B false))]),
                    .ret])
                  .skip)])),
            (.reg [o 51 (.mov (T 8)), o 52 (.bin .add (T 51) (I 1)), o 8 (.mov (T 52))])])))]),
    (.reg [o 4 (.mov (B true))]),
    .ret])
theorem ok226 : cfn Tryz.prog Tryz.f226 2 = some (s226, [.tmp 4]) := by kernel_rfl

/-! 227 spec.l09Values -/
def s227 : SCode :=
  (sqs [
    (.reg [o 2 (.mov (B false))]),
    (sqs [
      (.reg [o 3 (.mov (I 0))]),
      (.block 0
        (.loop
          (sqs [
            (sqs [
              (.reg [o 4 (.mov (T 3)), o 5 (.mov (T 0)), o 6 (.len (T 5)), o 7 (.bin .lss (T 4) (T 6))]),
              (.cond (T 7)
                .skip
                (.exit 0))]),
            (.block 1
              (sqs [
                (.reg [o 10 (.mov (T 0)), o 11 (.mov (T 3)), o 12 (.idxAddr 1 (T 10) (T 11)), o 13 (.load false 1 (T 12)), o 14 (.call 231 [(T 13)]), o 15 (.not (T 14))]),
                (.cond (T 15)
                  (sqs [
                    (.reg [o 2 (.mov (B false))]),
                    .ret])
                  .skip)])),
            (.reg [o 8 (.mov (T 3)), o 9 (.bin .add (T 8) (I 1)), o 3 (.mov (T 9))])])))]),
    (.reg [o 2 (.mov (B true))]),
    .ret])
theorem ok227 : cfn Tryz.prog Tryz.f227 1 = some (s227, [.tmp 2]) := by kernel_rfl

/-! 228 spec.l16Boot -/
def s228 : SCode :=
  (sqs [
    (.reg [o 5 (.box 1 (T 0)), o 10 (.zero [.nils, (.int .i64 0), .nils, (.int .i64 0)])]),
    (.reg [o 16 (.mov (T 3)), o 17 (.mov (T 4)), o 18 (.build [.nils, (.int .i64 0), .nils, (.int .i64 0)] [(1, 1, (T 16)), (3, 1, (T 17))]), o 11 (.hole 4), o 11 (.birth 4 (T 11) (T 18))]),
    (.reg [o 19 (.mov (T 1)), o 20 (.call 248 [(T 19)]), o 12 (.mov (T 20))]),
    (.reg [o 21 (.mov (T 12)), o 22 (.len (T 21)), o 23 (.mov (T 4)), o 24 (.bin .quo (T 23) (I 3)), o 25 (.min (T 22) (T 24)), o 13 (.mov (T 25))]),
    (.reg [o 26 (.mov (T 1)), o 27 (.mov (T 12)), o 28 (.mov (T 13)), o 29 (.call 249 [(T 26), (T 27), (T 28)]), o 30 (.fieldAddr 0 (T 11)), on_ (.store 1 (T 30) (T 29))]),
    (.reg [o 31 (.mov (T 4)), o 32 (.mov (T 13)), o 33 (.bin .mul (T 32) (I 3)), o 34 (.bin .sub (T 31) (T 33)), o 35 (.fieldAddr 3 (T 11)), on_ (.store 1 (T 35) (T 34))]),
    (sqs [
      (.reg [o 36 (.mov (T 13)), o 37 (.mov (T 12)), o 38 (.len (T 37)), o 39 (.bin .lss (T 36) (T 38))]),
      (.cond (T 39)
        (sqs [
          (.reg [o 40 (.load true 4 (T 11)), on_ (.store 4 (T 10) (T 40))]),
          .ret])
        .skip)]),
    (.block 0
      (.loop
        (sqs [
          (sqs [
            (.reg [o 41 (.fieldAddr 2 (T 11)), o 42 (.load false 1 (T 41)), o 43 (.len (T 42)), o 44 (.bin .lss (T 43) (I 10))]),
            (.cond (T 44)
              .skip
              (.exit 0))]),
          (.block 1
            (sqs [
              (.reg [o 45 (.load true 1 (T 5)), o 46 (.fieldAddr 0 (T 11)), o 47 (.load false 1 (T 46)), o 48 (.mov (T 2)), o 49 (.fieldAddr 1 (T 11)), o 50 (.load false 1 (T 49)), o 51 (.call 250 [(T 45), (T 47), (T 48), (T 50)]), o 14 (.hole 2), o 14 (.birth 2 (T 14) (T 51))]),
              (.reg [o 52 (.load true 2 (T 14)), o 53 (.fieldAddr 3 (T 11)), o 54 (.load false 1 (T 53)), o 55 (.call 251 [(T 52), (T 54)]), o 13 (.mov (T 55))]),
              (sqs [
                (.reg [o 15 (.mov (I 0))]),
                (.block 2
                  (.loop
                    (sqs [
                      (sqs [
                        (.reg [o 56 (.mov (T 15)), o 57 (.mov (T 13)), o 58 (.bin .lss (T 56) (T 57))]),
                        (.cond (T 58)
                          .skip
                          (.exit 2))]),
                      (.block 3
                        (sqs [
                          (.regD [o 61 (.fieldAddr 3 (T 11)), ⟨some 62, (.load false 1 (T 61)), none, 1, []⟩, o 63 (.fieldAddr 0 (T 14)), ⟨some 64, (.load false 1 (T 63)), none, 3, []⟩, o 65 (.mov (T 15)), o 66 (.idxAddr 3 (T 64) (T 65)), o 67 (.fieldAddr 0 (T 66)), ⟨some 68, (.load false 1 (T 67)), none, 7, []⟩, o 69 (.bin .sub (T 62) (T 68)), o 70 (.fieldAddr 3 (T 11)), on_ (.store 1 (T 70) (T 69))]),
                          (.reg [o 71 (.fieldAddr 0 (T 14)), o 72 (.load false 1 (T 71)), o 73 (.mov (T 15)), o 74 (.idxAddr 3 (T 72) (T 73)), o 75 (.fieldAddr 1 (T 74)), o 76 (.load false 1 (T 75)), o 77 (.bin .neq (T 76) (I (-1)))]),
                          (.cond (T 77)
                            (.regD [o 78 (.fieldAddr 0 (T 11)), ⟨some 79, (.load false 1 (T 78)), none, 1, []⟩, o 80 (.fieldAddr 0 (T 14)), ⟨some 81, (.load false 1 (T 80)), none, 3, []⟩, o 82 (.mov (T 15)), o 83 (.idxAddr 3 (T 81) (T 82)), o 84 (.fieldAddr 1 (T 83)), ⟨some 85, (.load false 1 (T 84)), none, 7, []⟩, o 86 (.fieldAddr 0 (T 14)), ⟨some 87, (.load false 1 (T 86)), none, 9, []⟩, o 88 (.mov (T 15)), o 89 (.idxAddr 3 (T 87) (T 88)), o 90 (.fieldAddr 2 (T 89)), ⟨some 91, (.load false 1 (T 90)), none, 13, []⟩, o 92 (.idxAddr 1 (T 79) (T 85)), on_ (.store 1 (T 92) (T 91))])
                            .skip)])),
                      (.reg [o 59 (.mov (T 15)), o 60 (.bin .add (T 59) (I 1)), o 15 (.mov (T 60))])])))]),
              (.regD [o 93 (.fieldAddr 1 (T 11)), ⟨some 94, (.load false 1 (T 93)), none, 1, []⟩, ⟨some 95, (.load true 2 (T 14)), none, 2, []⟩, o 96 (.mov (T 13)), ⟨some 97, (.call 252 [(T 95), (T 96)]), none, 0, [1]⟩, o 98 (.bin .add (T 94) (T 97)), o 99 (.fieldAddr 1 (T 11)), on_ (.store 1 (T 99) (T 98))]),
              (sqs [
                (.reg [o 100 (.mov (T 13)), o 101 (.fieldAddr 0 (T 14)), o 102 (.load false 1 (T 101)), o 103 (.len (T 102)), o 104 (.bin .lss (T 100) (T 103))]),
                (.cond (T 104)
                  (sqs [
                    (.reg [o 105 (.load true 4 (T 11)), on_ (.store 4 (T 10) (T 105))]),
                    .ret])
                  .skip)]),
              (.reg [o 106 (.fieldAddr 2 (T 11)), o 107 (.load false 1 (T 106)), o 108 (.fieldAddr 1 (T 14)), o 109 (.load false 1 (T 108)), o 110 (.lit 1 1 [.nils] [(0, (T 109))]), o 111 (.append 1 24 (T 107) (T 110)), o 112 (.fieldAddr 2 (T 11)), on_ (.store 1 (T 112) (T 111))])]))]))),
    (.reg [o 113 (.load true 4 (T 11)), on_ (.store 4 (T 10) (T 113))]),
    .ret])
theorem ok228 : cfn Tryz.prog Tryz.f228 5 = some (s228, [.cell 10 true 4]) := by kernel_rfl

/-! 231 spec.IsValue -/
def s231 : SCode :=
  (sqs [
    (.reg [o 2 (.mov (B false))]),
    (.reg [o 3 (.mov (T 0)), o 4 (.call 99 [(T 3), (I (-1000000)), (I 1000000)]), o 2 (.mov (T 4))]),
    .ret])
theorem ok231 : cfn Tryz.prog Tryz.f231 1 = some (s231, [.tmp 2]) := by kernel_rfl

/-! 232 impl.areHarvests$1 -/
def s232 : SCode :=
  (sqs [
    (.reg [o 2 (.mov (B false))]),
    (.reg [o 3 (.mov (T 0)), o 4 (.call 233 [(T 3)]), o 5 (.not (T 4)), o 2 (.mov (T 5))]),
    .ret])
theorem ok232 : cfn Tryz.prog Tryz.f232 1 = some (s232, [.tmp 2]) := by kernel_rfl

/-! 233 impl.isHarvest -/
def s233 : SCode :=
  (sqs [
    (.reg [o 2 (.mov (B false))]),
    (.reg [o 3 (.mov (T 0)), o 4 (.call 114 [(T 3), (I 0), (I 1000)]), o 2 (.mov (T 4))]),
    .ret])
theorem ok233 : cfn Tryz.prog Tryz.f233 1 = some (s233, [.tmp 2]) := by kernel_rfl

/-! 234 impl.Clamp -/
def s234 : SCode :=
  (sqs [
    (.reg [o 6 (.mov (I 0))]),
    (sqs [
      (.reg [o 7 (.mov (T 2)), o 8 (.mov (T 1)), o 9 (.bin .lss (T 7) (T 8))]),
      (.cond (T 9)
        (sqs [
          (.reg [o 10 (.mov (T 1)), o 6 (.mov (T 10))]),
          .ret])
        .skip)]),
    (.reg [o 11 (.mov (T 0)), o 12 (.mov (T 1)), o 13 (.max (T 11) (T 12)), o 14 (.mov (T 2)), o 15 (.min (T 13) (T 14)), o 6 (.mov (T 15))]),
    .ret])
theorem ok234 : cfn Tryz.prog Tryz.f234 3 = some (s234, [.tmp 6]) := by kernel_rfl

/-! 237 impl.Saturate -/
def s237 : SCode :=
  (sqs [
    (.reg [o 2 (.mov (I 0))]),
    (.reg [o 3 (.mov (T 0)), o 4 (.call 234 [(T 3), (I (-1000000)), (I 1000000)]), o 2 (.mov (T 4))]),
    .ret])
theorem ok237 : cfn Tryz.prog Tryz.f237 1 = some (s237, [.tmp 2]) := by kernel_rfl

/-! 238 spec.Saturate -/
def s238 : SCode :=
  (sqs [
    (.reg [o 2 (.mov (I 0))]),
    (.reg [o 3 (.mov (T 0)), o 4 (.call 247 [(T 3), (I (-1000000)), (I 1000000)]), o 2 (.mov (T 4))]),
    .ret])
theorem ok238 : cfn Tryz.prog Tryz.f238 1 = some (s238, [.tmp 2]) := by kernel_rfl

/-! 239 laws.toStmt -/
def s239 : SCode :=
  (sqs [
    (.reg [o 1 (.box 6 (T 0)), o 2 (.zero [(.int .i64 0), (.int .i64 0), (.int .i64 0), (.int .i64 0), (.int .i64 0), (.int .i64 0)])]),
    (.reg [o 3 (.zero [(.int .i64 0), (.int .i64 0), (.int .i64 0), (.int .i64 0), (.int .i64 0), (.int .i64 0)])]),
    (.reg [o 4 (.fieldAddr 0 (T 1)), o 5 (.load false 1 (T 4)), o 6 (.fieldAddr 0 (T 3)), on_ (.store 1 (T 6) (T 5))]),
    (.reg [o 7 (.fieldAddr 1 (T 1)), o 8 (.load false 1 (T 7)), o 9 (.fieldAddr 1 (T 3)), on_ (.store 1 (T 9) (T 8))]),
    (.reg [o 10 (.fieldAddr 2 (T 1)), o 11 (.load false 1 (T 10)), o 12 (.fieldAddr 2 (T 3)), on_ (.store 1 (T 12) (T 11))]),
    (.reg [o 13 (.fieldAddr 3 (T 1)), o 14 (.load true 3 (T 13)), o 15 (.call 213 [(T 14)]), o 16 (.fieldAddr 3 (T 3)), on_ (.store 3 (T 16) (T 15))]),
    (.reg [o 17 (.load true 6 (T 3)), on_ (.store 6 (T 2) (T 17))]),
    .ret])
theorem ok239 : cfn Tryz.prog Tryz.f239 1 = some (s239, [.cell 2 true 6]) := by kernel_rfl

/-! 240 laws.eqStmt -/
def s240 : SCode :=
  (sqs [
    (.reg [o 2 (.box 6 (T 0)), o 3 (.box 6 (T 1)), o 4 (.mov (B false))]),
    (sqs [
      (.reg [o 5 (.fieldAddr 0 (T 2)), o 6 (.load false 1 (T 5)), o 7 (.fieldAddr 0 (T 3)), o 8 (.load false 1 (T 7)), o 9 (.bin .neq (T 6) (T 8))]),
      (.cond (T 9)
        (sqs [
          (.reg [o 4 (.mov (B false))]),
          .ret])
        .skip)]),
    (sqs [
      (.reg [o 10 (.fieldAddr 1 (T 2)), o 11 (.load false 1 (T 10)), o 12 (.fieldAddr 1 (T 3)), o 13 (.load false 1 (T 12)), o 14 (.bin .neq (T 11) (T 13))]),
      (.cond (T 14)
        (sqs [
          (.reg [o 4 (.mov (B false))]),
          .ret])
        .skip)]),
    (sqs [
      (.reg [o 15 (.fieldAddr 2 (T 2)), o 16 (.load false 1 (T 15)), o 17 (.fieldAddr 2 (T 3)), o 18 (.load false 1 (T 17)), o 19 (.bin .neq (T 16) (T 18))]),
      (.cond (T 19)
        (sqs [
          (.reg [o 4 (.mov (B false))]),
          .ret])
        .skip)]),
    (sqs [
      (.reg [o 20 (.fieldAddr 3 (T 2)), o 21 (.load true 3 (T 20)), o 22 (.fieldAddr 3 (T 3)), o 23 (.load true 3 (T 22)), o 24 (.call 215 [(T 21), (T 23)]), o 25 (.not (T 24))]),
      (.cond (T 25)
        (sqs [
          (.reg [o 4 (.mov (B false))]),
          .ret])
        .skip)]),
    (.reg [o 4 (.mov (B true))]),
    .ret])
theorem ok240 : cfn Tryz.prog Tryz.f240 2 = some (s240, [.tmp 4]) := by kernel_rfl

/-! 241 spec.l21Bound -/
def s241 : SCode :=
  (sqs [
    (.reg [o 6 (.mov (I 0))]),
    (.reg [o 7 (.mov (I 0))]),
    (sqs [
      (.reg [o 10 (.mov (T 1)), o 8 (.mov (T 10))]),
      (.block 0
        (.loop
          (sqs [
            (sqs [
              (.reg [o 11 (.mov (T 8)), o 12 (.mov (T 2)), o 13 (.bin .lss (T 11) (T 12))]),
              (.cond (T 13)
                .skip
                (.exit 0))]),
            (.block 1
              (sqs [
                (.reg [o 16 (.mov (T 0)), o 17 (.mov (T 8)), o 18 (.idxAddr 6 (T 16) (T 17)), o 19 (.fieldAddr 0 (T 18)), o 20 (.load false 1 (T 19))]),
                (.block 2
                  (sqs [
                    (sqs [
                      (.reg [o 30 (.bin .eql (T 20) (I 4)), o 29 (.mov (T 30))]),
                      (.cond (T 29)
                        .skip
                        (.reg [o 31 (.bin .eql (T 20) (I 5)), o 29 (.mov (T 31))]))]),
                    (.cond (T 29)
                      (sqs [
                        (.reg [o 32 (.mov (T 0)), o 33 (.mov (T 8)), o 34 (.call 137 [(T 32), (T 33)]), o 9 (.mov (T 34))]),
                        (.regD [o 35 (.mov (T 7)), o 36 (.mov (T 0)), o 37 (.mov (T 8)), o 38 (.idxAddr 6 (T 36) (T 37)), ⟨some 39, (.load true 6 (T 38)), none, 4, []⟩, o 42 (.mov (T 0)), o 43 (.mov (T 8)), o 44 (.idxAddr 6 (T 42) (T 43)), o 45 (.fieldAddr 2 (T 44)), ⟨some 46, (.load false 1 (T 45)), none, 11, []⟩, o 47 (.max (I 1) (T 46)), o 48 (.mov (T 0)), o 49 (.mov (T 8)), o 50 (.bin .add (T 49) (I 1)), o 51 (.mov (T 9)), ⟨some 40, (.call 264 [(T 39)]), none, 0, [11]⟩, o 41 (.bin .add (T 35) (T 40)), ⟨some 52, (.call 241 [(T 48), (T 50), (T 51)]), none, 0, [11]⟩, o 53 (.bin .mul (T 47) (T 52)), o 54 (.bin .add (T 41) (T 53)), o 7 (.mov (T 54))]),
                        (.reg [o 55 (.mov (T 9)), o 8 (.mov (T 55))])])
                      (.reg [o 21 (.mov (T 7)), o 22 (.mov (T 0)), o 23 (.mov (T 8)), o 24 (.idxAddr 6 (T 22) (T 23)), o 25 (.load true 6 (T 24)), o 26 (.call 264 [(T 25)]), o 27 (.bin .add (T 21) (T 26)), o 28 (.bin .add (T 27) (I 3)), o 7 (.mov (T 28))]))]))])),
            (.reg [o 14 (.mov (T 8)), o 15 (.bin .add (T 14) (I 1)), o 8 (.mov (T 15))])])))]),
    (.reg [o 56 (.mov (T 7)), o 6 (.mov (T 56))]),
    .ret])
theorem ok241 : cfn Tryz.prog Tryz.f241 3 = some (s241, [.tmp 6]) := by kernel_rfl

/-! 242 spec.l07Writes -/
def s242 : SCode :=
  (sqs [
    (.reg [o 1 (.box 6 (T 0)), o 2 (.mov (B false))]),
    (.reg [o 3 (.fieldAddr 0 (T 1)), o 4 (.load false 1 (T 3)), o 5 (.bin .eql (T 4) (I 1)), o 6 (.mov (T 5)), og 7 (.fieldAddr 0 (T 1)) 6 false, og 8 (.load false 1 (T 7)) 6 false, og 9 (.bin .eql (T 8) (I 2)) 6 false, o 10 (.pick (T 6) (B true) (T 9)), o 2 (.mov (T 10))]),
    .ret])
theorem ok242 : cfn Tryz.prog Tryz.f242 1 = some (s242, [.tmp 2]) := by kernel_rfl

/-! 243 spec.l07List -/
def s243 : SCode :=
  (sqs [
    (.reg [o 2 (.mov N)]),
    (.reg [o 5 (.lit 0 1 [(.int .i64 0)] []), o 3 (.mov (T 5))]),
    (sqs [
      (.reg [o 4 (.mov (I 0))]),
      (.block 0
        (.loop
          (sqs [
            (sqs [
              (.reg [o 6 (.mov (T 4)), o 7 (.mov (T 0)), o 8 (.len (T 7)), o 9 (.bin .lss (T 6) (T 8))]),
              (.cond (T 9)
                .skip
                (.exit 0))]),
            (.block 1
              (sqs [
                (.reg [o 12 (.mov (T 0)), o 13 (.mov (T 4)), o 14 (.idxAddr 1 (T 12) (T 13)), o 15 (.load false 1 (T 14))]),
                (.cond (T 15)
                  (.reg [o 16 (.mov (T 3)), o 17 (.mov (T 4)), o 18 (.lit 1 1 [(.int .i64 0)] [(0, (T 17))]), o 19 (.append 1 8 (T 16) (T 18)), o 3 (.mov (T 19))])
                  .skip)])),
            (.reg [o 10 (.mov (T 4)), o 11 (.bin .add (T 10) (I 1)), o 4 (.mov (T 11))])])))]),
    (.reg [o 20 (.mov (T 3)), o 2 (.mov (T 20))]),
    .ret])
theorem ok243 : cfn Tryz.prog Tryz.f243 1 = some (s243, [.tmp 2]) := by kernel_rfl

/-! 244 spec.l07Pass -/
def s244 : SCode :=
  (sqs [
    (.reg [o 14 (.mov (T 1)), o 10 (.mov (T 14))]),
    (.block 0
      (.loop
        (sqs [
          (sqs [
            (.reg [o 15 (.mov (T 10)), o 16 (.mov (T 2)), o 17 (.bin .lss (T 15) (T 16))]),
            (.cond (T 17)
              .skip
              (.exit 0))]),
          (.block 1
            (sqs [
              (.reg [o 20 (.mov (T 0)), o 21 (.mov (T 10)), o 22 (.idxAddr 6 (T 20) (T 21)), o 23 (.load true 6 (T 22)), o 11 (.hole 6), o 11 (.birth 6 (T 11) (T 23))]),
              (.reg [o 24 (.fieldAddr 0 (T 11)), o 25 (.load false 1 (T 24))]),
              (.block 2
                (sqs [
                  (.reg [o 27 (.bin .eql (T 25) (I 1)), o 26 (.mov (T 27))]),
                  (.cond (T 26)
                    (sqs [
                      (.reg [o 28 (.mov (T 4)), o 29 (.mov (T 3)), o 30 (.fieldAddr 3 (T 11)), o 31 (.load true 3 (T 30)), o 32 (.call 245 [(T 28), (T 29), (T 31)])]),
                      (.reg [o 33 (.mov (T 3)), o 34 (.fieldAddr 1 (T 11)), o 35 (.load false 1 (T 34)), o 36 (.idxAddr 1 (T 33) (T 35)), on_ (.store 1 (T 36) (B true))])])
                    (sqs [
                      (.reg [o 38 (.bin .eql (T 25) (I 2)), o 37 (.mov (T 38))]),
                      (.cond (T 37)
                        (.reg [o 39 (.mov (T 3)), o 40 (.fieldAddr 1 (T 11)), o 41 (.load false 1 (T 40)), o 42 (.idxAddr 1 (T 39) (T 41)), on_ (.store 1 (T 42) (B true))])
                        (sqs [
                          (.reg [o 44 (.bin .eql (T 25) (I 3)), o 43 (.mov (T 44))]),
                          (.cond (T 43)
                            (.reg [o 45 (.mov (T 4)), o 46 (.mov (T 3)), o 47 (.fieldAddr 3 (T 11)), o 48 (.load true 3 (T 47)), o 49 (.call 245 [(T 45), (T 46), (T 48)])])
                            (sqs [
                              (.reg [o 51 (.bin .eql (T 25) (I 4)), o 50 (.mov (T 51))]),
                              (.cond (T 50)
                                (sqs [
                                  (.reg [o 52 (.mov (T 4)), o 53 (.mov (T 3)), o 54 (.fieldAddr 3 (T 11)), o 55 (.load true 3 (T 54)), o 56 (.call 245 [(T 52), (T 53), (T 55)])]),
                                  (.reg [o 57 (.mov (T 0)), o 58 (.mov (T 10)), o 59 (.call 137 [(T 57), (T 58)]), o 12 (.mov (T 59))]),
                                  (.reg [o 60 (.mov (T 0)), o 61 (.mov (T 10)), o 62 (.bin .add (T 61) (I 1)), o 63 (.mov (T 12)), o 64 (.lit 0 1 [(.bool false)] []), o 65 (.mov (T 3)), o 66 (.append 1 1 (T 64) (T 65)), o 67 (.mov (T 4)), o 68 (.call 244 [(T 60), (T 62), (T 63), (T 66), (T 67)])]),
                                  (.reg [o 69 (.mov (T 12)), o 10 (.mov (T 69))])])
                                (sqs [
                                  (.reg [o 71 (.bin .eql (T 25) (I 5)), o 70 (.mov (T 71))]),
                                  (.cond (T 70)
                                    (sqs [
                                      (.reg [o 72 (.mov (T 0)), o 73 (.mov (T 10)), o 74 (.call 137 [(T 72), (T 73)]), o 13 (.mov (T 74))]),
                                      (.reg [o 75 (.mov (T 0)), o 76 (.mov (T 10)), o 77 (.bin .add (T 76) (I 1)), o 78 (.mov (T 13)), o 79 (.mov (T 3)), o 80 (.mov (T 4)), o 81 (.call 244 [(T 75), (T 77), (T 78), (T 79), (T 80)])]),
                                      (.reg [o 82 (.mov (T 13)), o 10 (.mov (T 82))])])
                                    .skip)]))]))]))]))]))])),
          (.reg [o 18 (.mov (T 10)), o 19 (.bin .add (T 18) (I 1)), o 10 (.mov (T 19))])])))])
theorem ok244 : cfn Tryz.prog Tryz.f244 5 = some (s244, []) := by kernel_rfl

/-! 245 spec.l07Note -/
def s245 : SCode :=
  (sqs [
    (.reg [o 5 (.box 3 (T 2))]),
    (.reg [o 8 (.load true 3 (T 5)), o 9 (.call 265 [(T 8)]), o 6 (.mov (T 9))]),
    (.reg [o 7 (.mov (I 0))]),
    (.block 0
      (.loop
        (sqs [
          (sqs [
            (.reg [o 10 (.mov (T 7)), o 11 (.mov (T 6)), o 12 (.len (T 11)), o 13 (.bin .lss (T 10) (T 12))]),
            (.cond (T 13)
              .skip
              (.exit 0))]),
          (.block 1
            (sqs [
              (.reg [o 16 (.mov (T 1)), o 17 (.mov (T 6)), o 18 (.mov (T 7)), o 19 (.idxAddr 1 (T 17) (T 18)), o 20 (.load false 1 (T 19)), o 21 (.idxAddr 1 (T 16) (T 20)), o 22 (.load false 1 (T 21)), o 23 (.not (T 22))]),
              (.cond (T 23)
                (.reg [o 24 (.mov (T 0)), o 25 (.mov (T 6)), o 26 (.mov (T 7)), o 27 (.idxAddr 1 (T 25) (T 26)), o 28 (.load false 1 (T 27)), o 29 (.idxAddr 1 (T 24) (T 28)), on_ (.store 1 (T 29) (B true))])
                .skip)])),
          (.reg [o 14 (.mov (T 7)), o 15 (.bin .add (T 14) (I 1)), o 7 (.mov (T 15))])])))])
theorem ok245 : cfn Tryz.prog Tryz.f245 3 = some (s245, []) := by kernel_rfl

/-! 246 spec.l19Harvests -/
def s246 : SCode :=
  (sqs [
    (.reg [o 2 (.mov (B false))]),
    (sqs [
      (.reg [o 3 (.mov (I 0))]),
      (.block 0
        (.loop
          (sqs [
            (sqs [
              (.reg [o 4 (.mov (T 3)), o 5 (.mov (T 0)), o 6 (.len (T 5)), o 7 (.bin .lss (T 4) (T 6))]),
              (.cond (T 7)
                .skip
                (.exit 0))]),
            (.block 1
              (sqs [
                (.reg [o 10 (.mov (T 0)), o 11 (.mov (T 3)), o 12 (.idxAddr 1 (T 10) (T 11)), o 13 (.load false 1 (T 12)), o 14 (.call 99 [(T 13), (I 0), (I 1000)]), o 15 (.not (T 14))]),
                (.cond (T 15)
                  (sqs [
                    (.reg [o 2 (.mov (B false))]),
                    .ret])
                  .skip)])),
            (.reg [o 8 (.mov (T 3)), o 9 (.bin .add (T 8) (I 1)), o 3 (.mov (T 9))])])))]),
    (.reg [o 2 (.mov (B true))]),
    .ret])
theorem ok246 : cfn Tryz.prog Tryz.f246 1 = some (s246, [.tmp 2]) := by kernel_rfl

/-! 247 spec.Clamp -/
def s247 : SCode :=
  (sqs [
    (.reg [o 6 (.mov (I 0))]),
    (sqs [
      (.reg [o 7 (.mov (T 2)), o 8 (.mov (T 1)), o 9 (.bin .lss (T 7) (T 8)), o 10 (.mov (T 9)), og 11 (.mov (T 0)) 10 false, og 12 (.mov (T 1)) 10 false, og 13 (.bin .lss (T 11) (T 12)) 10 false, o 14 (.pick (T 10) (B true) (T 13))]),
      (.cond (T 14)
        (sqs [
          (.reg [o 15 (.mov (T 1)), o 6 (.mov (T 15))]),
          .ret])
        .skip)]),
    (sqs [
      (.reg [o 16 (.mov (T 0)), o 17 (.mov (T 2)), o 18 (.bin .gtr (T 16) (T 17))]),
      (.cond (T 18)
        (sqs [
          (.reg [o 19 (.mov (T 2)), o 6 (.mov (T 19))]),
          .ret])
        .skip)]),
    (.reg [o 20 (.mov (T 0)), o 6 (.mov (T 20))]),
    .ret])
theorem ok247 : cfn Tryz.prog Tryz.f247 3 = some (s247, [.tmp 6]) := by kernel_rfl

/-! 248 spec.RecoveryWrites -/
def s248 : SCode :=
  (sqs [
    (.reg [o 2 (.mov N)]),
    (.reg [o 9 (.lit 0 2 [(.int .i64 0), (.int .i64 0)] []), o 3 (.mov (T 9))]),
    (sqs [
      (.reg [o 10 (.mov (T 0)), o 11 (.len (T 10)), o 12 (.bin .neq (T 11) (I 49))]),
      (.cond (T 12)
        (sqs [
          (.reg [o 13 (.mov (T 3)), o 2 (.mov (T 13))]),
          .ret])
        .skip)]),
    (.reg [o 15 (.mov (T 0)), o 16 (.idxAddr 1 (T 15) (I 8)), o 17 (.load false 1 (T 16)), o 18 (.call 32 [(T 17)]), o 14 (.mov (T 18)), o 19 (.ext 0 (T 14)), o 20 (.ext 1 (T 14)), o 21 (.ext 2 (T 14)), o 4 (.mov (T 19)), o 5 (.mov (T 20)), o 6 (.mov (T 21))]),
    (sqs [
      (.reg [o 22 (.mov (T 5)), o 23 (.bin .sub (T 22) (I 1)), o 7 (.mov (T 23))]),
      (.block 0
        (.loop
          (sqs [
            (sqs [
              (.reg [o 24 (.mov (T 7)), o 25 (.bin .geq (T 24) (I 0))]),
              (.cond (T 25)
                .skip
                (.exit 0))]),
            (.block 1
              (sqs [
                (.reg [o 28 (.mov (T 0)), o 29 (.mov (T 7)), o 30 (.bin .mul (I 2) (T 29)), o 31 (.bin .add (I 9) (T 30)), o 32 (.idxAddr 1 (T 28) (T 31)), o 33 (.load false 1 (T 32)), o 8 (.mov (T 33))]),
                (sqs [
                  (.reg [o 34 (.mov (T 8)), o 35 (.call 99 [(T 34), (I 0), (I 7)]), o 36 (.not (T 35))]),
                  (.cond (T 36)
                    (sqs [
                      (.reg [o 37 (.lit 0 2 [(.int .i64 0), (.int .i64 0)] []), o 2 (.mov (T 37))]),
                      .ret])
                    .skip)]),
                (.reg [o 38 (.mov (T 3)), o 39 (.mov (T 8)), o 40 (.mov (T 0)), o 41 (.mov (T 7)), o 42 (.bin .mul (I 2) (T 41)), o 43 (.bin .add (I 9) (T 42)), o 44 (.bin .add (T 43) (I 1)), o 45 (.idxAddr 1 (T 40) (T 44)), o 46 (.load false 1 (T 45)), o 47 (.build [(.int .i64 0), (.int .i64 0)] [(0, 1, (T 39)), (1, 1, (T 46))]), o 48 (.lit 1 2 [(.int .i64 0), (.int .i64 0)] [(0, (T 47))]), o 49 (.append 2 16 (T 38) (T 48)), o 3 (.mov (T 49))])])),
            (.reg [o 26 (.mov (T 7)), o 27 (.bin .sub (T 26) (I 1)), o 7 (.mov (T 27))])])))]),
    (sqs [
      (.reg [o 50 (.mov (T 5)), o 51 (.bin .leq (T 50) (I 0))]),
      (.cond (T 51)
        (sqs [
          (.reg [o 52 (.mov (T 3)), o 2 (.mov (T 52))]),
          .ret])
        .skip)]),
    (.reg [o 53 (.mov (T 3)), o 54 (.mov (T 4)), o 55 (.mov (T 6)), o 56 (.call 62 [(T 54), (I 0), (T 55)]), o 57 (.build [(.int .i64 0), (.int .i64 0)] [(0, 1, (I 8)), (1, 1, (T 56))]), o 58 (.lit 1 2 [(.int .i64 0), (.int .i64 0)] [(0, (T 57))]), o 59 (.append 2 16 (T 53) (T 58)), o 2 (.mov (T 59))]),
    .ret])
theorem ok248 : cfn Tryz.prog Tryz.f248 1 = some (s248, [.tmp 2]) := by kernel_rfl

/-! 249 spec.ApplyWrites -/
def s249 : SCode :=
  (sqs [
    (.reg [o 6 (.mov N)]),
    (.reg [o 9 (.lit 0 1 [(.int .i64 0)] []), o 10 (.mov (T 0)), o 11 (.append 1 8 (T 9) (T 10)), o 7 (.mov (T 11))]),
    (sqs [
      (.reg [o 8 (.mov (I 0))]),
      (.block 0
        (.loop
          (sqs [
            (sqs [
              (.reg [o 12 (.mov (T 8)), o 13 (.mov (T 1)), o 14 (.len (T 13)), o 15 (.bin .lss (T 12) (T 14)), o 16 (.mov (T 15)), og 17 (.mov (T 8)) 16 true, og 18 (.mov (T 2)) 16 true, og 19 (.bin .lss (T 17) (T 18)) 16 true, o 20 (.pick (T 16) (T 19) (B false))]),
              (.cond (T 20)
                .skip
                (.exit 0))]),
            (.block 1
              (sqs [
                (.reg [o 23 (.mov (T 1)), o 24 (.mov (T 8)), o 25 (.idxAddr 2 (T 23) (T 24)), o 26 (.fieldAddr 0 (T 25)), o 27 (.load false 1 (T 26)), o 28 (.mov (T 0)), o 29 (.len (T 28)), o 30 (.bin .sub (T 29) (I 1)), o 31 (.call 99 [(T 27), (I 0), (T 30)])]),
                (.cond (T 31)
                  (.regD [o 32 (.mov (T 7)), o 33 (.mov (T 1)), o 34 (.mov (T 8)), o 35 (.idxAddr 2 (T 33) (T 34)), o 36 (.fieldAddr 0 (T 35)), ⟨some 37, (.load false 1 (T 36)), none, 5, []⟩, o 38 (.mov (T 1)), o 39 (.mov (T 8)), o 40 (.idxAddr 2 (T 38) (T 39)), o 41 (.fieldAddr 1 (T 40)), ⟨some 42, (.load false 1 (T 41)), none, 10, []⟩, o 43 (.idxAddr 1 (T 32) (T 37)), on_ (.store 1 (T 43) (T 42))])
                  .skip)])),
            (.reg [o 21 (.mov (T 8)), o 22 (.bin .add (T 21) (I 1)), o 8 (.mov (T 22))])])))]),
    (.reg [o 44 (.mov (T 7)), o 6 (.mov (T 44))]),
    .ret])
theorem ok249 : cfn Tryz.prog Tryz.f249 3 = some (s249, [.tmp 6]) := by kernel_rfl

/-! 250 spec.l14Trace -/
def s250 : SCode :=
  (sqs [
    (.reg [o 4 (.box 1 (T 0)), o 8 (.zero [.nils, .nils])]),
    (.reg [o 15 (.mov (T 1)), o 16 (.idxAddr 1 (T 15) (I 8)), o 17 (.load false 1 (T 16)), o 18 (.call 32 [(T 17)]), o 14 (.mov (T 18)), o 19 (.ext 0 (T 14)), o 20 (.ext 1 (T 14)), o 21 (.ext 2 (T 14)), o 9 (.mov (T 19)), o 10 (.mov (T 20)), o 11 (.mov (T 21))]),
    (.reg [o 22 (.mov (T 9)), o 23 (.mov (T 11)), o 24 (.fieldAddr 0 (T 4)), o 25 (.load false 1 (T 24)), o 26 (.mov (T 9)), o 27 (.idxAddr 4 (T 25) (T 26)), o 28 (.load true 4 (T 27)), o 29 (.call 178 [(T 28)]), o 30 (.build [.nils, .nils, .nils, .nils, .nils, (.int .i64 0), (.bool false), .nils, .nils, .nils, (.int .i64 0), (.int .i64 0)] [(10, 1, (T 22)), (11, 1, (T 23)), (8, 1, (T 29))]), o 12 (.hole 12), o 12 (.birth 12 (T 12) (T 30))]),
    (.reg [o 31 (.mov (T 1)), o 32 (.call 266 [(T 31)]), o 33 (.mov (T 2)), o 34 (.mov (T 3)), o 35 (.build [.nils, .nils, .nils, .nils, .nils, (.int .i64 0), (.bool false)] [(0, 1, (T 32)), (4, 1, (T 33)), (5, 1, (T 34)), (6, 1, (B true))]), o 36 (.fieldAddr 0 (T 12)), on_ (.store 7 (T 36) (T 35))]),
    (.reg [o 37 (.fieldAddr 0 (T 4)), o 38 (.load false 1 (T 37)), o 39 (.mov (T 9)), o 40 (.idxAddr 4 (T 38) (T 39)), o 41 (.fieldAddr 0 (T 40)), o 42 (.load false 1 (T 41)), o 13 (.mov (T 42))]),
    (.reg [o 43 (.mov (T 13)), o 44 (.mov (T 13)), o 45 (.len (T 44)), o 46 (.call 267 [(T 12), (T 43), (I 0), (T 45)])]),
    (.reg [o 47 (.call 268 [(T 12), (I 1)])]),
    (.regD [o 48 (.load true 1 (T 4)), o 49 (.fieldAddr 0 (T 12)), o 50 (.fieldAddr 0 (T 49)), ⟨some 51, (.load false 1 (T 50)), none, 3, []⟩, o 52 (.mov (T 9)), o 54 (.mov (T 11)), o 55 (.fieldAddr 0 (T 12)), o 56 (.fieldAddr 1 (T 55)), ⟨some 57, (.load false 1 (T 56)), none, 9, []⟩, o 58 (.len (T 57)), o 59 (.bin .add (T 54) (T 58)), o 60 (.min (I 24) (T 59)), ⟨some 53, (.call 270 [(T 48), (T 51), (T 52)]), none, 0, [9]⟩, o 61 (.call 62 [(T 53), (I 0), (T 60)]), o 62 (.call 269 [(T 12), (I 8), (T 61)])]),
    (.regD [o 63 (.fieldAddr 7 (T 12)), ⟨some 64, (.load false 1 (T 63)), none, 1, []⟩, o 66 (.fieldAddr 0 (T 12)), o 67 (.fieldAddr 2 (T 66)), ⟨some 68, (.load false 1 (T 67)), none, 5, []⟩, ⟨some 65, (.lit 0 1 [(.int .i64 0)] []), none, 0, [1, 5]⟩, ⟨some 69, (.append 1 8 (T 65) (T 68)), none, 0, [1]⟩, o 70 (.build [.nils, .nils] [(0, 1, (T 64)), (1, 1, (T 69))]), on_ (.store 2 (T 8) (T 70))]),
    .ret])
theorem ok250 : cfn Tryz.prog Tryz.f250 4 = some (s250, [.cell 8 true 2]) := by kernel_rfl

/-! 251 spec.CountSteps -/
def s251 : SCode :=
  (sqs [
    (.reg [o 2 (.box 2 (T 0)), o 4 (.mov (I 0))]),
    (.reg [o 5 (.mov (I 0))]),
    (.reg [o 6 (.mov (I 0))]),
    (.reg [o 7 (.mov (I 0))]),
    (.block 0
      (.loop
        (sqs [
          (sqs [
            (.reg [o 9 (.mov (T 5)), o 10 (.fieldAddr 0 (T 2)), o 11 (.load false 1 (T 10)), o 12 (.len (T 11)), o 13 (.bin .lss (T 9) (T 12)), o 14 (.mov (T 13)), og 15 (.mov (T 1)) 14 true, og 16 (.bin .geq (T 15) (I 0)) 14 true, o 17 (.pick (T 14) (T 16) (B false))]),
            (.cond (T 17)
              .skip
              (.exit 0))]),
          (.block 1
            (sqs [
              (.reg [o 18 (.fieldAddr 0 (T 2)), o 19 (.load false 1 (T 18)), o 20 (.mov (T 5)), o 21 (.idxAddr 3 (T 19) (T 20)), o 22 (.fieldAddr 0 (T 21)), o 23 (.load false 1 (T 22)), o 8 (.mov (T 23))]),
              (.reg [o 24 (.mov (T 6)), o 25 (.mov (T 8)), o 26 (.bin .and (T 25) (I 4294967295)), o 27 (.bin .add (T 24) (T 26)), o 6 (.mov (T 27))]),
              (.reg [o 28 (.mov (T 7)), o 29 (.mov (T 8)), o 30 (.bin .shr (T 29) (.val (.int .u64 32))), o 31 (.bin .add (T 28) (T 30)), o 32 (.mov (T 6)), o 33 (.bin .shr (T 32) (.val (.int .u64 32))), o 34 (.bin .add (T 31) (T 33)), o 7 (.mov (T 34))]),
              (.reg [o 35 (.mov (T 6)), o 36 (.bin .and (T 35) (I 4294967295)), o 6 (.mov (T 36))]),
              (sqs [
                (.reg [o 37 (.mov (T 7)), o 38 (.mov (T 1)), o 39 (.bin .shr (T 38) (.val (.int .u64 32))), o 40 (.bin .gtr (T 37) (T 39)), o 41 (.mov (T 40)), og 42 (.mov (T 7)) 41 false, og 43 (.mov (T 1)) 41 false, og 44 (.bin .shr (T 43) (.val (.int .u64 32))) 41 false, og 45 (.bin .eql (T 42) (T 44)) 41 false, og 46 (.mov (T 45)) 41 false, og 47 (.mov (T 6)) 46 true, og 48 (.mov (T 1)) 46 true, og 49 (.bin .and (T 48) (I 4294967295)) 46 true, og 50 (.bin .gtr (T 47) (T 49)) 46 true, og 51 (.pick (T 46) (T 50) (B false)) 41 false, o 52 (.pick (T 41) (B true) (T 51))]),
                (.cond (T 52)
                  (sqs [
                    (.reg [o 53 (.mov (T 5)), o 4 (.mov (T 53))]),
                    .ret])
                  .skip)]),
              (.reg [o 54 (.mov (T 5)), o 55 (.bin .add (T 54) (I 1)), o 5 (.mov (T 55))])]))]))),
    (.reg [o 56 (.mov (T 5)), o 4 (.mov (T 56))]),
    .ret])
theorem ok251 : cfn Tryz.prog Tryz.f251 2 = some (s251, [.tmp 4]) := by kernel_rfl

/-! 252 spec.l16Senses -/
def s252 : SCode :=
  (sqs [
    (.reg [o 2 (.box 2 (T 0)), o 4 (.mov (I 0))]),
    (.reg [o 5 (.mov (I 0))]),
    (sqs [
      (.reg [o 6 (.mov (I 0))]),
      (.block 0
        (.loop
          (sqs [
            (sqs [
              (.reg [o 7 (.mov (T 6)), o 8 (.mov (T 1)), o 9 (.bin .lss (T 7) (T 8))]),
              (.cond (T 9)
                .skip
                (.exit 0))]),
            (.block 1
              (sqs [
                (.reg [o 12 (.fieldAddr 0 (T 2)), o 13 (.load false 1 (T 12)), o 14 (.mov (T 6)), o 15 (.idxAddr 3 (T 13) (T 14)), o 16 (.fieldAddr 1 (T 15)), o 17 (.load false 1 (T 16)), o 18 (.bin .eql (T 17) (I (-1))), o 19 (.mov (T 18)), og 20 (.fieldAddr 0 (T 2)) 19 true, og 21 (.load false 1 (T 20)) 19 true, og 22 (.mov (T 6)) 19 true, og 23 (.idxAddr 3 (T 21) (T 22)) 19 true, og 24 (.fieldAddr 0 (T 23)) 19 true, og 25 (.load false 1 (T 24)) 19 true, og 26 (.bin .eql (T 25) (I 5)) 19 true, o 27 (.pick (T 19) (T 26) (B false))]),
                (.cond (T 27)
                  (.reg [o 28 (.mov (T 5)), o 29 (.bin .add (T 28) (I 1)), o 5 (.mov (T 29))])
                  .skip)])),
            (.reg [o 10 (.mov (T 6)), o 11 (.bin .add (T 10) (I 1)), o 6 (.mov (T 11))])])))]),
    (.reg [o 30 (.mov (T 5)), o 4 (.mov (T 30))]),
    .ret])
theorem ok252 : cfn Tryz.prog Tryz.f252 2 = some (s252, [.tmp 4]) := by kernel_rfl

/-! 264 spec.l11Cost -/
def s264 : SCode :=
  (sqs [
    (.reg [o 1 (.box 6 (T 0)), o 2 (.mov (I 0))]),
    (sqs [
      (.reg [o 3 (.fieldAddr 0 (T 1)), o 4 (.load false 1 (T 3))]),
      (.block 0
        (sqs [
          (.reg [o 6 (.bin .eql (T 4) (I 1)), o 5 (.mov (T 6))]),
          (.cond (T 5)
            (sqs [
              (.reg [o 2 (.mov (I 2))]),
              .ret])
            (sqs [
              (.reg [o 8 (.bin .eql (T 4) (I 2)), o 7 (.mov (T 8))]),
              (.cond (T 7)
                (sqs [
                  (.reg [o 2 (.mov (I 5))]),
                  .ret])
                (sqs [
                  (.reg [o 10 (.bin .eql (T 4) (I 3)), o 9 (.mov (T 10))]),
                  (.cond (T 9)
                    (sqs [
                      (.reg [o 2 (.mov (I 4))]),
                      .ret])
                    (sqs [
                      (sqs [
                        (.reg [o 12 (.bin .eql (T 4) (I 4)), o 11 (.mov (T 12))]),
                        (.cond (T 11)
                          .skip
                          (.reg [o 13 (.bin .eql (T 4) (I 5)), o 11 (.mov (T 13))]))]),
                      (.cond (T 11)
                        (sqs [
                          (.reg [o 2 (.mov (I 1))]),
                          .ret])
                        .skip)]))]))]))]))]),
    (.reg [o 2 (.mov (I 0))]),
    .ret])
theorem ok264 : cfn Tryz.prog Tryz.f264 1 = some (s264, [.tmp 2]) := by kernel_rfl

/-! 265 spec.ReadsOf -/
def s265 : SCode :=
  (sqs [
    (.reg [o 1 (.box 3 (T 0)), o 2 (.mov N)]),
    (.reg [o 5 (.lit 0 1 [(.int .i64 0)] []), o 3 (.mov (T 5))]),
    (sqs [
      (.reg [o 4 (.mov (I 0))]),
      (.block 0
        (.loop
          (sqs [
            (sqs [
              (.reg [o 6 (.mov (T 4)), o 7 (.bin .lss (T 6) (I 8)), o 8 (.mov (T 7)), og 9 (.load true 3 (T 1)) 8 true, og 10 (.call 174 [(T 9)]) 8 true, o 11 (.pick (T 8) (T 10) (B false))]),
              (.cond (T 11)
                .skip
                (.exit 0))]),
            (.block 1
              (sqs [
                (.reg [o 14 (.fieldAddr 1 (T 1)), o 15 (.load false 1 (T 14)), o 16 (.mov (T 4)), o 17 (.bin .sub (I (-1)) (T 16)), o 18 (.bin .eql (T 15) (T 17)), o 19 (.mov (T 18)), og 20 (.fieldAddr 2 (T 1)) 19 false, og 21 (.load false 1 (T 20)) 19 false, og 22 (.mov (T 4)) 19 false, og 23 (.bin .sub (I (-1)) (T 22)) 19 false, og 24 (.bin .eql (T 21) (T 23)) 19 false, o 25 (.pick (T 19) (B true) (T 24))]),
                (.cond (T 25)
                  (.reg [o 26 (.mov (T 3)), o 27 (.mov (T 4)), o 28 (.lit 1 1 [(.int .i64 0)] [(0, (T 27))]), o 29 (.append 1 8 (T 26) (T 28)), o 3 (.mov (T 29))])
                  .skip)])),
            (.reg [o 12 (.mov (T 4)), o 13 (.bin .add (T 12) (I 1)), o 4 (.mov (T 13))])])))]),
    (.reg [o 30 (.mov (T 3)), o 2 (.mov (T 30))]),
    .ret])
theorem ok265 : cfn Tryz.prog Tryz.f265 1 = some (s265, [.tmp 2]) := by kernel_rfl

/-! 266 spec.MemVars -/
def s266 : SCode :=
  (sqs [
    (.reg [o 2 (.mov N)]),
    (sqs [
      (.reg [o 3 (.mov (T 0)), o 4 (.len (T 3)), o 5 (.bin .neq (T 4) (I 49))]),
      (.cond (T 5)
        (sqs [
          (.reg [o 6 (.lit 0 1 [(.int .i64 0)] []), o 2 (.mov (T 6))]),
          .ret])
        .skip)]),
    (.reg [o 7 (.lit 0 1 [(.int .i64 0)] []), o 8 (.mov (T 0)), o 9 (.slice 1 (T 8) none (some (I 8))), o 10 (.append 1 8 (T 7) (T 9)), o 2 (.mov (T 10))]),
    .ret])
theorem ok266 : cfn Tryz.prog Tryz.f266 1 = some (s266, [.tmp 2]) := by kernel_rfl

/-! 267 spec.l14Exec -/
def s267 : SCode :=
  (sqs [
    (.reg [o 15 (.mov (T 2)), o 8 (.mov (T 15))]),
    (.block 0
      (.loop
        (sqs [
          (sqs [
            (.reg [o 16 (.mov (T 8)), o 17 (.mov (T 3)), o 18 (.bin .lss (T 16) (T 17))]),
            (.cond (T 18)
              .skip
              (.exit 0))]),
          (.block 1
            (sqs [
              (.reg [o 21 (.mov (T 1)), o 22 (.mov (T 8)), o 23 (.idxAddr 6 (T 21) (T 22)), o 24 (.load true 6 (T 23)), o 9 (.hole 6), o 9 (.birth 6 (T 9) (T 24))]),
              (sqs [
                (.reg [o 25 (.fieldAddr 0 (T 9)), o 26 (.load false 1 (T 25)), o 27 (.bin .neq (T 26) (I 6))]),
                (.cond (T 27)
                  (.reg [o 28 (.mov (T 0)), o 29 (.load true 6 (T 9)), o 30 (.call 264 [(T 29)]), o 31 (.call 268 [(T 28), (T 30)])])
                  .skip)]),
              (.reg [o 32 (.fieldAddr 0 (T 9)), o 33 (.load false 1 (T 32))]),
              (.block 2
                (sqs [
                  (.reg [o 35 (.bin .eql (T 33) (I 1)), o 34 (.mov (T 35))]),
                  (.cond (T 34)
                    (.regD [o 36 (.mov (T 0)), o 37 (.fieldAddr 1 (T 9)), ⟨some 38, (.load false 1 (T 37)), none, 2, []⟩, o 39 (.mov (T 0)), o 40 (.nilchk (T 39)), o 41 (.fieldAddr 0 (T 40)), o 42 (.fieldAddr 0 (T 41)), ⟨some 43, (.load false 1 (T 42)), none, 7, []⟩, o 44 (.fieldAddr 3 (T 9)), ⟨some 45, (.load true 3 (T 44)), none, 9, []⟩, ⟨some 46, (.call 169 [(T 43), (T 45)]), none, 0, [2]⟩, o 47 (.call 277 [(T 36), (T 38), (T 46)])])
                    (sqs [
                      (.reg [o 49 (.bin .eql (T 33) (I 2)), o 48 (.mov (T 49))]),
                      (.cond (T 48)
                        (.regD [o 50 (.mov (T 0)), o 51 (.fieldAddr 1 (T 9)), ⟨some 52, (.load false 1 (T 51)), none, 2, []⟩, o 53 (.mov (T 0)), o 54 (.nilchk (T 53)), o 55 (.fieldAddr 0 (T 54)), o 56 (.fieldAddr 2 (T 9)), ⟨some 57, (.load false 1 (T 56)), none, 7, []⟩, ⟨some 58, (.call 278 [(T 55), (T 57)]), none, 0, [2]⟩, o 59 (.call 277 [(T 50), (T 52), (T 58)])])
                        (sqs [
                          (.reg [o 61 (.bin .eql (T 33) (I 3)), o 60 (.mov (T 61))]),
                          (.cond (T 60)
                            (sqs [
                              (.regD [o 62 (.mov (T 0)), o 63 (.nilchk (T 62)), o 64 (.fieldAddr 11 (T 63)), ⟨some 65, (.load false 1 (T 64)), none, 3, []⟩, o 66 (.mov (T 0)), o 67 (.nilchk (T 66)), o 68 (.fieldAddr 0 (T 67)), o 69 (.fieldAddr 1 (T 68)), ⟨some 70, (.load false 1 (T 69)), none, 8, []⟩, o 71 (.len (T 70)), o 72 (.bin .add (T 65) (T 71)), o 10 (.mov (T 72))]),
                              (.regD [o 73 (.mov (T 0)), o 74 (.nilchk (T 73)), o 75 (.fieldAddr 0 (T 74)), o 76 (.fieldAddr 0 (T 75)), ⟨some 77, (.load false 1 (T 76)), none, 4, []⟩, o 78 (.fieldAddr 3 (T 9)), ⟨some 79, (.load true 3 (T 78)), none, 6, []⟩, o 80 (.call 169 [(T 77), (T 79)]), o 11 (.mov (T 80))]),
                              (.reg [o 81 (.mov (T 0)), o 82 (.mov (T 0)), o 83 (.nilchk (T 82)), o 84 (.fieldAddr 0 (T 83)), o 85 (.fieldAddr 1 (T 84)), o 86 (.load false 1 (T 85)), o 87 (.mov (T 11)), o 88 (.lit 1 1 [(.int .i64 0)] [(0, (T 87))]), o 89 (.append 1 8 (T 86) (T 88)), o 90 (.nilchk (T 81)), o 91 (.fieldAddr 0 (T 90)), o 92 (.fieldAddr 1 (T 91)), on_ (.store 1 (T 92) (T 89))]),
                              (.reg [o 93 (.mov (T 10)), o 94 (.bin .lss (T 93) (I 24))]),
                              (.cond (T 94)
                                (.reg [o 95 (.mov (T 0)), o 96 (.mov (T 10)), o 97 (.bin .add (I 25) (T 96)), o 98 (.mov (T 11)), o 99 (.call 269 [(T 95), (T 97), (T 98)])])
                                .skip)])
                            (sqs [
                              (sqs [
                                (.reg [o 101 (.bin .eql (T 33) (I 4)), o 100 (.mov (T 101))]),
                                (.cond (T 100)
                                  .skip
                                  (.reg [o 102 (.bin .eql (T 33) (I 5)), o 100 (.mov (T 102))]))]),
                              (.cond (T 100)
                                (sqs [
                                  (.reg [o 103 (.mov (T 1)), o 104 (.mov (T 8)), o 105 (.call 137 [(T 103), (T 104)]), o 12 (.mov (T 105))]),
                                  (.reg [o 106 (.fieldAddr 2 (T 9)), o 107 (.load false 1 (T 106)), o 13 (.mov (T 107))]),
                                  (sqs [
                                    (.reg [o 108 (.fieldAddr 0 (T 9)), o 109 (.load false 1 (T 108)), o 110 (.bin .eql (T 109) (I 4))]),
                                    (.cond (T 110)
                                      (.regD [o 111 (.mov (T 0)), o 112 (.nilchk (T 111)), o 113 (.fieldAddr 0 (T 112)), o 114 (.fieldAddr 0 (T 113)), ⟨some 115, (.load false 1 (T 114)), none, 4, []⟩, o 116 (.fieldAddr 3 (T 9)), ⟨some 117, (.load true 3 (T 116)), none, 6, []⟩, o 118 (.call 169 [(T 115), (T 117)]), o 119 (.bin .neq (T 118) (I 0)), o 120 (.call 211 [(T 119)]), o 13 (.mov (T 120))])
                                      .skip)]),
                                  (sqs [
                                    (.reg [o 14 (.mov (I 0))]),
                                    (.block 3
                                      (.loop
                                        (sqs [
                                          (sqs [
                                            (.reg [o 121 (.mov (T 14)), o 122 (.mov (T 13)), o 123 (.bin .lss (T 121) (T 122))]),
                                            (.cond (T 123)
                                              .skip
                                              (.exit 3))]),
                                          (.block 4
                                            (.reg [o 126 (.mov (T 0)), o 127 (.mov (T 1)), o 128 (.mov (T 8)), o 129 (.bin .add (T 128) (I 1)), o 130 (.mov (T 12)), o 131 (.call 267 [(T 126), (T 127), (T 129), (T 130)])])),
                                          (.reg [o 124 (.mov (T 14)), o 125 (.bin .add (T 124) (I 1)), o 14 (.mov (T 125))])])))]),
                                  (.reg [o 132 (.mov (T 12)), o 8 (.mov (T 132))])])
                                .skip)]))]))]))]))])),
          (.reg [o 19 (.mov (T 8)), o 20 (.bin .add (T 19) (I 1)), o 8 (.mov (T 20))])])))])
theorem ok267 : cfn Tryz.prog Tryz.f267 4 = some (s267, []) := by kernel_rfl

/-! 268 spec.l14Step -/
def s268 : SCode :=
  (.reg [o 4 (.mov (T 0)), o 5 (.mov (T 0)), o 6 (.nilchk (T 5)), o 7 (.fieldAddr 7 (T 6)), o 8 (.load false 1 (T 7)), o 9 (.mov (T 1)), o 10 (.build [(.int .i64 0), (.int .i64 0), (.int .i64 0)] [(0, 1, (T 9)), (1, 1, (I (-1)))]), o 11 (.lit 1 3 [(.int .i64 0), (.int .i64 0), (.int .i64 0)] [(0, (T 10))]), o 12 (.append 3 24 (T 8) (T 11)), o 13 (.nilchk (T 4)), o 14 (.fieldAddr 7 (T 13)), on_ (.store 1 (T 14) (T 12))])
theorem ok268 : cfn Tryz.prog Tryz.f268 2 = some (s268, []) := by kernel_rfl

/-! 269 spec.l14Write -/
def s269 : SCode :=
  (.reg [o 6 (.mov (T 0)), o 7 (.mov (T 0)), o 8 (.nilchk (T 7)), o 9 (.fieldAddr 7 (T 8)), o 10 (.load false 1 (T 9)), o 11 (.mov (T 1)), o 12 (.mov (T 2)), o 13 (.build [(.int .i64 0), (.int .i64 0), (.int .i64 0)] [(0, 1, (I 3)), (1, 1, (T 11)), (2, 1, (T 12))]), o 14 (.lit 1 3 [(.int .i64 0), (.int .i64 0), (.int .i64 0)] [(0, (T 13))]), o 15 (.append 3 24 (T 10) (T 14)), o 16 (.nilchk (T 6)), o 17 (.fieldAddr 7 (T 16)), on_ (.store 1 (T 17) (T 15))])
theorem ok269 : cfn Tryz.prog Tryz.f269 3 = some (s269, []) := by kernel_rfl

/-! 270 spec.l06Next -/
def s270 : SCode :=
  (sqs [
    (.reg [o 3 (.box 1 (T 0)), o 6 (.mov (I 0))]),
    (.regD [o 8 (.mov (T 1)), o 9 (.fieldAddr 0 (T 3)), ⟨some 10, (.load false 1 (T 9)), none, 2, []⟩, o 11 (.mov (T 2)), o 12 (.idxAddr 4 (T 10) (T 11)), o 13 (.fieldAddr 1 (T 12)), ⟨some 14, (.load true 3 (T 13)), none, 6, []⟩, o 16 (.fieldAddr 0 (T 3)), ⟨some 17, (.load false 1 (T 16)), none, 9, []⟩, o 18 (.len (T 17)), ⟨some 15, (.call 169 [(T 8), (T 14)]), none, 0, [9]⟩, o 19 (.bin .rem (T 15) (T 18)), o 7 (.mov (T 19))]),
    (sqs [
      (.reg [o 20 (.mov (T 7)), o 21 (.bin .lss (T 20) (I 0))]),
      (.cond (T 21)
        (.reg [o 22 (.mov (T 7)), o 23 (.fieldAddr 0 (T 3)), o 24 (.load false 1 (T 23)), o 25 (.len (T 24)), o 26 (.bin .add (T 22) (T 25)), o 7 (.mov (T 26))])
        .skip)]),
    (.reg [o 27 (.mov (T 7)), o 6 (.mov (T 27))]),
    .ret])
theorem ok270 : cfn Tryz.prog Tryz.f270 3 = some (s270, [.tmp 6]) := by kernel_rfl

/-! 277 spec.l14Assign -/
def s277 : SCode :=
  (sqs [
    (sqs [
      (.reg [o 7 (.mov (T 0)), o 8 (.nilchk (T 7)), o 9 (.fieldAddr 8 (T 8)), o 10 (.load false 1 (T 9)), o 11 (.mov (T 1)), o 12 (.call 100 [(T 10), (T 11)]), o 13 (.mov (T 12)), og 14 (.mov (T 0)) 13 true, og 15 (.nilchk (T 14)) 13 true, og 16 (.fieldAddr 9 (T 15)) 13 true, og 17 (.load false 1 (T 16)) 13 true, og 18 (.mov (T 1)) 13 true, og 19 (.call 100 [(T 17), (T 18)]) 13 true, og 20 (.not (T 19)) 13 true, o 21 (.pick (T 13) (T 20) (B false))]),
      (.cond (T 21)
        (sqs [
          (.reg [o 22 (.mov (T 0)), o 23 (.nilchk (T 22)), o 24 (.fieldAddr 9 (T 23)), o 25 (.load false 1 (T 24)), o 26 (.len (T 25)), o 6 (.mov (T 26))]),
          (.reg [o 27 (.mov (T 0)), o 28 (.mov (T 6)), o 29 (.bin .mul (I 2) (T 28)), o 30 (.bin .add (I 9) (T 29)), o 31 (.mov (T 1)), o 32 (.call 269 [(T 27), (T 30), (T 31)])]),
          (.reg [o 33 (.mov (T 0)), o 34 (.mov (T 6)), o 35 (.bin .mul (I 2) (T 34)), o 36 (.bin .add (I 9) (T 35)), o 37 (.bin .add (T 36) (I 1)), o 38 (.mov (T 0)), o 39 (.nilchk (T 38)), o 40 (.fieldAddr 0 (T 39)), o 41 (.fieldAddr 0 (T 40)), o 42 (.load false 1 (T 41)), o 43 (.mov (T 1)), o 44 (.idxAddr 1 (T 42) (T 43)), o 45 (.load false 1 (T 44)), o 46 (.call 269 [(T 33), (T 37), (T 45)])]),
          (.regD [o 47 (.mov (T 0)), o 48 (.mov (T 0)), o 49 (.nilchk (T 48)), o 50 (.fieldAddr 10 (T 49)), ⟨some 51, (.load false 1 (T 50)), none, 4, []⟩, o 52 (.mov (T 6)), o 53 (.bin .add (T 52) (I 1)), o 54 (.mov (T 0)), o 55 (.nilchk (T 54)), o 56 (.fieldAddr 11 (T 55)), ⟨some 57, (.load false 1 (T 56)), none, 10, []⟩, o 58 (.call 62 [(T 51), (T 53), (T 57)]), o 59 (.call 269 [(T 47), (I 8), (T 58)])]),
          (.reg [o 60 (.mov (T 0)), o 61 (.mov (T 0)), o 62 (.nilchk (T 61)), o 63 (.fieldAddr 9 (T 62)), o 64 (.load false 1 (T 63)), o 65 (.mov (T 1)), o 66 (.lit 1 1 [(.int .i64 0)] [(0, (T 65))]), o 67 (.append 1 8 (T 64) (T 66)), o 68 (.nilchk (T 60)), o 69 (.fieldAddr 9 (T 68)), on_ (.store 1 (T 69) (T 67))])])
        .skip)]),
    (.reg [o 70 (.mov (T 0)), o 71 (.nilchk (T 70)), o 72 (.fieldAddr 0 (T 71)), o 73 (.fieldAddr 0 (T 72)), o 74 (.load false 1 (T 73)), o 75 (.mov (T 1)), o 76 (.mov (T 2)), o 77 (.idxAddr 1 (T 74) (T 75)), on_ (.store 1 (T 77) (T 76))]),
    (.reg [o 78 (.mov (T 0)), o 79 (.mov (T 1)), o 80 (.mov (T 2)), o 81 (.call 269 [(T 78), (T 79), (T 80)])])])
theorem ok277 : cfn Tryz.prog Tryz.f277 3 = some (s277, []) := by kernel_rfl

/-! 278 spec.l12Sense -/
def s278 : SCode :=
  (sqs [
    (.reg [o 4 (.mov (I 0))]),
    (.reg [o 7 (.mov (T 0)), o 8 (.nilchk (T 7)), o 9 (.fieldAddr 2 (T 8)), o 10 (.load false 1 (T 9)), o 11 (.len (T 10)), o 5 (.mov (T 11))]),
    (.reg [o 6 (.mov (I 0))]),
    (sqs [
      (.reg [o 12 (.mov (T 0)), o 13 (.nilchk (T 12)), o 14 (.fieldAddr 6 (T 13)), o 15 (.load false 1 (T 14))]),
      (.cond (T 15)
        (.regD [o 16 (.mov (T 0)), o 17 (.nilchk (T 16)), o 18 (.fieldAddr 4 (T 17)), ⟨some 19, (.load false 1 (T 18)), none, 3, []⟩, o 20 (.mov (T 1)), o 21 (.mov (T 0)), o 22 (.nilchk (T 21)), o 23 (.fieldAddr 5 (T 22)), ⟨some 24, (.load false 1 (T 23)), none, 8, []⟩, o 25 (.mov (T 5)), o 26 (.bin .add (T 24) (T 25)), o 27 (.call 280 [(T 19), (T 20), (T 26)]), o 6 (.mov (T 27))])
        (sqs [
          (.reg [o 28 (.mov (T 5)), o 29 (.mov (T 0)), o 30 (.nilchk (T 29)), o 31 (.fieldAddr 3 (T 30)), o 32 (.load false 1 (T 31)), o 33 (.len (T 32)), o 34 (.bin .lss (T 28) (T 33))]),
          (.cond (T 34)
            (.reg [o 35 (.mov (T 0)), o 36 (.nilchk (T 35)), o 37 (.fieldAddr 3 (T 36)), o 38 (.load false 1 (T 37)), o 39 (.mov (T 5)), o 40 (.idxAddr 1 (T 38) (T 39)), o 41 (.load false 1 (T 40)), o 6 (.mov (T 41))])
            .skip)]))]),
    (.reg [o 42 (.mov (T 0)), o 43 (.mov (T 0)), o 44 (.nilchk (T 43)), o 45 (.fieldAddr 2 (T 44)), o 46 (.load false 1 (T 45)), o 47 (.mov (T 6)), o 48 (.lit 1 1 [(.int .i64 0)] [(0, (T 47))]), o 49 (.append 1 8 (T 46) (T 48)), o 50 (.nilchk (T 42)), o 51 (.fieldAddr 2 (T 50)), on_ (.store 1 (T 51) (T 49))]),
    (.reg [o 52 (.mov (T 6)), o 4 (.mov (T 52))]),
    .ret])
theorem ok278 : cfn Tryz.prog Tryz.f278 2 = some (s278, [.tmp 4]) := by kernel_rfl

/-! 280 spec.ReadSensor -/
def s280 : SCode :=
  (sqs [
    (.reg [o 6 (.mov (I 0))]),
    (sqs [
      (.reg [o 7 (.mov (T 0)), o 8 (.len (T 7)), o 9 (.bin .eql (T 8) (I 0)), o 10 (.mov (T 9)), og 11 (.mov (T 1)) 10 false, og 12 (.call 99 [(T 11), (I 0), (I 3)]) 10 false, og 13 (.not (T 12)) 10 false, o 14 (.pick (T 10) (B true) (T 13)), o 15 (.mov (T 14)), og 16 (.mov (T 2)) 15 false, og 17 (.bin .lss (T 16) (I 0)) 15 false, o 18 (.pick (T 15) (B true) (T 17))]),
      (.cond (T 18)
        (sqs [
          (.reg [o 6 (.mov (I 0))]),
          .ret])
        .skip)]),
    (.reg [o 19 (.mov (T 0)), o 20 (.mov (T 2)), o 21 (.mov (T 0)), o 22 (.len (T 21)), o 23 (.bin .rem (T 20) (T 22)), o 24 (.idxAddr 1 (T 19) (T 23)), o 25 (.load false 1 (T 24)), o 26 (.mov (T 1)), o 27 (.bin .mul (I 100) (T 26)), o 28 (.call 208 [(T 25), (T 27)]), o 6 (.mov (T 28))]),
    .ret])
theorem ok280 : cfn Tryz.prog Tryz.f280 3 = some (s280, [.tmp 6]) := by kernel_rfl

end Go.Av

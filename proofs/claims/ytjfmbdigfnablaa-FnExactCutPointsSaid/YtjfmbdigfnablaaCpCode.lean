import Derived.Test.YtjfmbdigfnablaaAv18
import Derived.Test.YtjfmbdigfnablaaProg
namespace Go.Av
open Go.Proofs
/-! 5 laws.szStmtS -/
def s5 : SCode :=
  (sqs [
    (.reg [o 4 (.mov (I 0))]),
    (.reg [o 5 (.mov (T 1)), o 6 (.mov (T 0)), o 7 (.len (T 6)), o 8 (.bin .sub (T 5) (T 7)), o 1 (.mov (T 8))]),
    (sqs [
      (.reg [o 9 (.mov (T 1)), o 10 (.bin .lss (T 9) (I 0))]),
      (.cond (T 10)
        (sqs [
          (.reg [o 4 (.mov (I (-1)))]),
          .ret])
        .skip)]),
    (.reg [o 11 (.mov (T 1)), o 4 (.mov (T 11))]),
    .ret])
theorem ok5 : cfn Try.prog Try.f5 2 = some (s5, [.tmp 4]) := by kernel_rfl

/-! 27 spec.l01In -/
def s27 : SCode :=
  (sqs [
    (.reg [o 6 (.mov (B false))]),
    (.reg [o 7 (.mov (T 0)), o 8 (.mov (T 1)), o 9 (.bin .geq (T 7) (T 8)), o 10 (.mov (T 9)), og 11 (.mov (T 0)) 10 true, og 12 (.mov (T 2)) 10 true, og 13 (.bin .leq (T 11) (T 12)) 10 true, o 14 (.pick (T 10) (T 13) (B false)), o 6 (.mov (T 14))]),
    .ret])
theorem ok27 : cfn Try.prog Try.f27 3 = some (s27, [.tmp 6]) := by kernel_rfl

/-! 70 spec.OperandOk -/
def s70 : SCode :=
  (sqs [
    (.reg [o 2 (.mov (B false))]),
    (.reg [o 3 (.mov (T 0)), o 4 (.call 27 [(T 3), (I (-8)), (I 999)]), o 2 (.mov (T 4))]),
    .ret])
theorem ok70 : cfn Try.prog Try.f70 1 = some (s70, [.tmp 2]) := by kernel_rfl

/-! 45 spec.ExprOk -/
def s45 : SCode :=
  (sqs [
    (.reg [o 1 (.box 3 (T 0)), o 2 (.mov (B false))]),
    (.reg [o 3 (.fieldAddr 0 (T 1)), o 4 (.load false 1 (T 3)), o 5 (.call 27 [(T 4), (I 1), (I 7)]), o 6 (.mov (T 5)), og 7 (.fieldAddr 1 (T 1)) 6 true, og 8 (.load false 1 (T 7)) 6 true, og 9 (.call 70 [(T 8)]) 6 true, o 10 (.pick (T 6) (T 9) (B false)), o 11 (.mov (T 10)), og 12 (.fieldAddr 2 (T 1)) 11 true, og 13 (.load false 1 (T 12)) 11 true, og 14 (.call 70 [(T 13)]) 11 true, o 15 (.pick (T 11) (T 14) (B false)), o 2 (.mov (T 15))]),
    .ret])
theorem ok45 : cfn Try.prog Try.f45 1 = some (s45, [.tmp 2]) := by kernel_rfl

/-! 65 spec.l04Plain -/
def s65 : SCode :=
  (sqs [
    (.reg [o 1 (.box 6 (T 0)), o 2 (.zero [(.int .i64 0), (.int .i64 0), (.int .i64 0), (.int .i64 0), (.int .i64 0), (.int .i64 0)])]),
    (.reg [o 4 (.fieldAddr 0 (T 1)), o 5 (.load false 1 (T 4)), o 6 (.build [(.int .i64 0), (.int .i64 0), (.int .i64 0), (.int .i64 0), (.int .i64 0), (.int .i64 0)] [(0, 1, (T 5))]), o 3 (.hole 6), o 3 (.birth 6 (T 3) (T 6))]),
    (sqs [
      (.reg [o 7 (.fieldAddr 0 (T 1)), o 8 (.load false 1 (T 7))]),
      (.block 0
        (sqs [
          (.reg [o 10 (.bin .eql (T 8) (I 1)), o 9 (.mov (T 10))]),
          (.cond (T 9)
            (sqs [
              (.reg [o 11 (.fieldAddr 1 (T 1)), o 12 (.load false 1 (T 11)), o 13 (.fieldAddr 1 (T 3)), on_ (.store 1 (T 13) (T 12))]),
              (.reg [o 14 (.fieldAddr 3 (T 1)), o 15 (.load true 3 (T 14)), o 16 (.fieldAddr 3 (T 3)), on_ (.store 3 (T 16) (T 15))])])
            (sqs [
              (.reg [o 18 (.bin .eql (T 8) (I 2)), o 17 (.mov (T 18))]),
              (.cond (T 17)
                (sqs [
                  (.reg [o 19 (.fieldAddr 1 (T 1)), o 20 (.load false 1 (T 19)), o 21 (.fieldAddr 1 (T 3)), on_ (.store 1 (T 21) (T 20))]),
                  (.reg [o 22 (.fieldAddr 2 (T 1)), o 23 (.load false 1 (T 22)), o 24 (.fieldAddr 2 (T 3)), on_ (.store 1 (T 24) (T 23))])])
                (sqs [
                  (sqs [
                    (.reg [o 26 (.bin .eql (T 8) (I 3)), o 25 (.mov (T 26))]),
                    (.cond (T 25)
                      .skip
                      (.reg [o 27 (.bin .eql (T 8) (I 4)), o 25 (.mov (T 27))]))]),
                  (.cond (T 25)
                    (.reg [o 28 (.fieldAddr 3 (T 1)), o 29 (.load true 3 (T 28)), o 30 (.fieldAddr 3 (T 3)), on_ (.store 3 (T 30) (T 29))])
                    (sqs [
                      (.reg [o 32 (.bin .eql (T 8) (I 5)), o 31 (.mov (T 32))]),
                      (.cond (T 31)
                        (.reg [o 33 (.fieldAddr 2 (T 1)), o 34 (.load false 1 (T 33)), o 35 (.fieldAddr 2 (T 3)), on_ (.store 1 (T 35) (T 34))])
                        .skip)]))]))]))]))]),
    (.reg [o 36 (.load true 6 (T 3)), on_ (.store 6 (T 2) (T 36))]),
    .ret])
theorem ok65 : cfn Try.prog Try.f65 1 = some (s65, [.cell 2 true 6]) := by kernel_rfl

/-! 37 spec.StmtOk -/
def s37 : SCode :=
  (sqs [
    (.reg [o 1 (.box 6 (T 0)), o 2 (.mov (B false))]),
    (sqs [
      (.regD [o 3 (.load true 6 (T 1)), ⟨some 4, (.load true 6 (T 1)), none, 1, []⟩, ⟨some 5, (.call 65 [(T 4)]), none, 0, [0]⟩, o 6 (.eqs 48 true (T 3) (T 5))]),
      (.cond (T 6)
        (sqs [
          (.reg [o 2 (.mov (B false))]),
          .ret])
        .skip)]),
    (sqs [
      (.reg [o 7 (.fieldAddr 0 (T 1)), o 8 (.load false 1 (T 7))]),
      (.block 0
        (sqs [
          (.reg [o 10 (.bin .eql (T 8) (I 1)), o 9 (.mov (T 10))]),
          (.cond (T 9)
            (sqs [
              (.reg [o 11 (.fieldAddr 1 (T 1)), o 12 (.load false 1 (T 11)), o 13 (.call 27 [(T 12), (I 0), (I 7)]), o 14 (.mov (T 13)), og 15 (.fieldAddr 3 (T 1)) 14 true, og 16 (.load true 3 (T 15)) 14 true, og 17 (.call 45 [(T 16)]) 14 true, o 18 (.pick (T 14) (T 17) (B false)), o 2 (.mov (T 18))]),
              .ret])
            (sqs [
              (.reg [o 20 (.bin .eql (T 8) (I 2)), o 19 (.mov (T 20))]),
              (.cond (T 19)
                (sqs [
                  (.reg [o 21 (.fieldAddr 1 (T 1)), o 22 (.load false 1 (T 21)), o 23 (.call 27 [(T 22), (I 0), (I 7)]), o 24 (.mov (T 23)), og 25 (.fieldAddr 2 (T 1)) 24 true, og 26 (.load false 1 (T 25)) 24 true, og 27 (.call 27 [(T 26), (I 0), (I 3)]) 24 true, o 28 (.pick (T 24) (T 27) (B false)), o 2 (.mov (T 28))]),
                  .ret])
                (sqs [
                  (sqs [
                    (.reg [o 30 (.bin .eql (T 8) (I 3)), o 29 (.mov (T 30))]),
                    (.cond (T 29)
                      .skip
                      (.reg [o 31 (.bin .eql (T 8) (I 4)), o 29 (.mov (T 31))]))]),
                  (.cond (T 29)
                    (sqs [
                      (.reg [o 32 (.fieldAddr 3 (T 1)), o 33 (.load true 3 (T 32)), o 34 (.call 45 [(T 33)]), o 2 (.mov (T 34))]),
                      .ret])
                    (sqs [
                      (.reg [o 36 (.bin .eql (T 8) (I 5)), o 35 (.mov (T 36))]),
                      (.cond (T 35)
                        (sqs [
                          (.reg [o 37 (.fieldAddr 2 (T 1)), o 38 (.load false 1 (T 37)), o 39 (.call 27 [(T 38), (I 1), (I 5)]), o 2 (.mov (T 39))]),
                          .ret])
                        .skip)]))]))]))]))]),
    (.reg [o 40 (.fieldAddr 0 (T 1)), o 41 (.load false 1 (T 40)), o 42 (.bin .eql (T 41) (I 6)), o 2 (.mov (T 42))]),
    .ret])
theorem ok37 : cfn Try.prog Try.f37 1 = some (s37, [.tmp 2]) := by kernel_rfl

/-! 19 spec.BlockOk -/
def s19 : SCode :=
  (sqs [
    (.reg [o 2 (.mov (B false))]),
    (.reg [o 3 (.mov (I 0))]),
    (sqs [
      (.reg [o 4 (.mov (I 0))]),
      (.block 0
        (.loop
          (sqs [
            (sqs [
              (.reg [o 5 (.mov (T 4)), o 6 (.mov (T 0)), o 7 (.len (T 6)), o 8 (.bin .lss (T 5) (T 7))]),
              (.cond (T 8)
                .skip
                (.exit 0))]),
            (.block 1
              (sqs [
                (sqs [
                  (.reg [o 11 (.mov (T 0)), o 12 (.mov (T 4)), o 13 (.idxAddr 6 (T 11) (T 12)), o 14 (.load true 6 (T 13)), o 15 (.call 37 [(T 14)]), o 16 (.not (T 15))]),
                  (.cond (T 16)
                    (sqs [
                      (.reg [o 2 (.mov (B false))]),
                      .ret])
                    .skip)]),
                (sqs [
                  (.reg [o 17 (.mov (T 0)), o 18 (.mov (T 4)), o 19 (.idxAddr 6 (T 17) (T 18)), o 20 (.fieldAddr 0 (T 19)), o 21 (.load false 1 (T 20))]),
                  (.block 2
                    (sqs [
                      (sqs [
                        (.reg [o 23 (.bin .eql (T 21) (I 4)), o 22 (.mov (T 23))]),
                        (.cond (T 22)
                          .skip
                          (.reg [o 24 (.bin .eql (T 21) (I 5)), o 22 (.mov (T 24))]))]),
                      (.cond (T 22)
                        (.reg [o 25 (.mov (T 3)), o 26 (.bin .add (T 25) (I 1)), o 3 (.mov (T 26))])
                        (sqs [
                          (.reg [o 28 (.bin .eql (T 21) (I 6)), o 27 (.mov (T 28))]),
                          (.cond (T 27)
                            (.reg [o 29 (.mov (T 3)), o 30 (.bin .sub (T 29) (I 1)), o 3 (.mov (T 30))])
                            .skip)]))]))]),
                (.reg [o 31 (.mov (T 3)), o 32 (.call 27 [(T 31), (I 0), (I 3)]), o 33 (.not (T 32))]),
                (.cond (T 33)
                  (sqs [
                    (.reg [o 2 (.mov (B false))]),
                    .ret])
                  .skip)])),
            (.reg [o 9 (.mov (T 4)), o 10 (.bin .add (T 9) (I 1)), o 4 (.mov (T 10))])])))]),
    (.reg [o 34 (.mov (T 3)), o 35 (.bin .eql (T 34) (I 0)), o 36 (.mov (T 35)), og 37 (.mov (T 0)) 36 true, og 38 (.len (T 37)) 36 true, og 39 (.bin .leq (T 38) (I 24)) 36 true, o 40 (.pick (T 36) (T 39) (B false)), o 2 (.mov (T 40))]),
    .ret])
theorem ok19 : cfn Try.prog Try.f19 1 = some (s19, [.tmp 2]) := by kernel_rfl

/-! 38 spec.l05Opens -/
def s38 : SCode :=
  (sqs [
    (.reg [o 1 (.box 6 (T 0)), o 2 (.mov (B false))]),
    (.reg [o 3 (.fieldAddr 0 (T 1)), o 4 (.load false 1 (T 3)), o 5 (.bin .eql (T 4) (I 4)), o 6 (.mov (T 5)), og 7 (.fieldAddr 0 (T 1)) 6 false, og 8 (.load false 1 (T 7)) 6 false, og 9 (.bin .eql (T 8) (I 5)) 6 false, o 10 (.pick (T 6) (B true) (T 9)), o 2 (.mov (T 10))]),
    .ret])
theorem ok38 : cfn Try.prog Try.f38 1 = some (s38, [.tmp 2]) := by kernel_rfl

/-! 39 spec.l05End -/
def s39 : SCode :=
  (sqs [
    (.reg [o 4 (.mov (I 0))]),
    (.reg [o 5 (.mov (I 0))]),
    (sqs [
      (.reg [o 7 (.mov (T 1)), o 6 (.mov (T 7))]),
      (.block 0
        (.loop
          (sqs [
            (sqs [
              (.reg [o 8 (.mov (T 6)), o 9 (.mov (T 0)), o 10 (.len (T 9)), o 11 (.bin .lss (T 8) (T 10))]),
              (.cond (T 11)
                .skip
                (.exit 0))]),
            (.block 1
              (sqs [
                (sqs [
                  (.reg [o 14 (.mov (T 0)), o 15 (.mov (T 6)), o 16 (.idxAddr 6 (T 14) (T 15)), o 17 (.load true 6 (T 16)), o 18 (.call 38 [(T 17)])]),
                  (.cond (T 18)
                    (.reg [o 19 (.mov (T 5)), o 20 (.bin .add (T 19) (I 1)), o 5 (.mov (T 20))])
                    .skip)]),
                (.reg [o 21 (.mov (T 0)), o 22 (.mov (T 6)), o 23 (.idxAddr 6 (T 21) (T 22)), o 24 (.fieldAddr 0 (T 23)), o 25 (.load false 1 (T 24)), o 26 (.bin .eql (T 25) (I 6))]),
                (.cond (T 26)
                  (sqs [
                    (.reg [o 27 (.mov (T 5)), o 28 (.bin .sub (T 27) (I 1)), o 5 (.mov (T 28))]),
                    (.reg [o 29 (.mov (T 5)), o 30 (.bin .eql (T 29) (I 0))]),
                    (.cond (T 30)
                      (sqs [
                        (.reg [o 31 (.mov (T 6)), o 4 (.mov (T 31))]),
                        .ret])
                      .skip)])
                  .skip)])),
            (.reg [o 12 (.mov (T 6)), o 13 (.bin .add (T 12) (I 1)), o 6 (.mov (T 13))])])))]),
    (.reg [o 4 (.mov (I (-1)))]),
    .ret])
theorem ok39 : cfn Try.prog Try.f39 2 = some (s39, [.tmp 4]) := by kernel_rfl

/-! 20 spec.DepthOf -/
def s20 : SCode :=
  (sqs [
    (.reg [o 4 (.mov (I 0))]),
    (sqs [
      (.reg [o 7 (.mov (T 0)), o 8 (.call 19 [(T 7)]), o 9 (.not (T 8)), o 10 (.mov (T 9)), og 11 (.mov (T 1)) 10 false, og 12 (.mov (T 0)) 10 false, og 13 (.len (T 12)) 10 false, og 14 (.bin .sub (T 13) (I 1)) 10 false, og 15 (.call 27 [(T 11), (I 0), (T 14)]) 10 false, og 16 (.not (T 15)) 10 false, o 17 (.pick (T 10) (B true) (T 16))]),
      (.cond (T 17)
        (sqs [
          (.reg [o 4 (.mov (I (-1)))]),
          .ret])
        .skip)]),
    (.reg [o 5 (.mov (I 0))]),
    (sqs [
      (.reg [o 6 (.mov (I 0))]),
      (.block 0
        (.loop
          (sqs [
            (sqs [
              (.reg [o 18 (.mov (T 6)), o 19 (.mov (T 1)), o 20 (.bin .lss (T 18) (T 19))]),
              (.cond (T 20)
                .skip
                (.exit 0))]),
            (.block 1
              (sqs [
                (.reg [o 23 (.mov (T 0)), o 24 (.mov (T 6)), o 25 (.idxAddr 6 (T 23) (T 24)), o 26 (.load true 6 (T 25)), o 27 (.call 38 [(T 26)]), o 28 (.mov (T 27)), og 29 (.mov (T 0)) 28 true, og 30 (.mov (T 6)) 28 true, og 31 (.call 39 [(T 29), (T 30)]) 28 true, og 32 (.mov (T 1)) 28 true, og 33 (.bin .geq (T 31) (T 32)) 28 true, o 34 (.pick (T 28) (T 33) (B false))]),
                (.cond (T 34)
                  (.reg [o 35 (.mov (T 5)), o 36 (.bin .add (T 35) (I 1)), o 5 (.mov (T 36))])
                  .skip)])),
            (.reg [o 21 (.mov (T 6)), o 22 (.bin .add (T 21) (I 1)), o 6 (.mov (T 22))])])))]),
    (.reg [o 37 (.mov (T 5)), o 4 (.mov (T 37))]),
    .ret])
theorem ok20 : cfn Try.prog Try.f20 2 = some (s20, [.tmp 4]) := by kernel_rfl

/-! 6 spec.CutPoints -/
def s6 : SCode :=
  (sqs [
    (.reg [o 2 (.mov N)]),
    (.reg [o 5 (.lit 0 1 [(.int .i64 0)] []), o 3 (.mov (T 5))]),
    (sqs [
      (.reg [o 4 (.mov (I 1))]),
      (.block 0
        (.loop
          (sqs [
            (sqs [
              (.reg [o 6 (.mov (T 4)), o 7 (.mov (T 0)), o 8 (.len (T 7)), o 9 (.bin .lss (T 6) (T 8)), o 10 (.mov (T 9)), og 11 (.mov (T 0)) 10 true, og 12 (.call 19 [(T 11)]) 10 true, o 13 (.pick (T 10) (T 12) (B false))]),
              (.cond (T 13)
                .skip
                (.exit 0))]),
            (.block 1
              (sqs [
                (.reg [o 16 (.mov (T 0)), o 17 (.mov (T 4)), o 18 (.idxAddr 6 (T 16) (T 17)), o 19 (.fieldAddr 0 (T 18)), o 20 (.load false 1 (T 19)), o 21 (.bin .neq (T 20) (I 6)), o 22 (.mov (T 21)), og 23 (.mov (T 0)) 22 true, og 24 (.mov (T 4)) 22 true, og 25 (.call 20 [(T 23), (T 24)]) 22 true, og 26 (.bin .eql (T 25) (I 0)) 22 true, o 27 (.pick (T 22) (T 26) (B false))]),
                (.cond (T 27)
                  (.reg [o 28 (.mov (T 3)), o 29 (.mov (T 4)), o 30 (.lit 1 1 [(.int .i64 0)] [(0, (T 29))]), o 31 (.append 1 8 (T 28) (T 30)), o 3 (.mov (T 31))])
                  .skip)])),
            (.reg [o 14 (.mov (T 4)), o 15 (.bin .add (T 14) (I 1)), o 4 (.mov (T 15))])])))]),
    (.reg [o 32 (.mov (T 3)), o 2 (.mov (T 32))]),
    .ret])
theorem ok6 : cfn Try.prog Try.f6 1 = some (s6, [.tmp 2]) := by kernel_rfl

/-! 40 laws.toExpr -/
def s40 : SCode :=
  (sqs [
    (.reg [o 1 (.box 3 (T 0)), o 2 (.zero [(.int .i64 0), (.int .i64 0), (.int .i64 0)])]),
    (.reg [o 3 (.zero [(.int .i64 0), (.int .i64 0), (.int .i64 0)])]),
    (.reg [o 4 (.fieldAddr 0 (T 1)), o 5 (.load false 1 (T 4)), o 6 (.fieldAddr 0 (T 3)), on_ (.store 1 (T 6) (T 5))]),
    (.reg [o 7 (.fieldAddr 1 (T 1)), o 8 (.load false 1 (T 7)), o 9 (.fieldAddr 1 (T 3)), on_ (.store 1 (T 9) (T 8))]),
    (.reg [o 10 (.fieldAddr 2 (T 1)), o 11 (.load false 1 (T 10)), o 12 (.fieldAddr 2 (T 3)), on_ (.store 1 (T 12) (T 11))]),
    (.reg [o 13 (.load true 3 (T 3)), on_ (.store 3 (T 2) (T 13))]),
    .ret])
theorem ok40 : cfn Try.prog Try.f40 1 = some (s40, [.cell 2 true 3]) := by kernel_rfl

/-! 21 laws.toStmt -/
def s21 : SCode :=
  (sqs [
    (.reg [o 1 (.box 6 (T 0)), o 2 (.zero [(.int .i64 0), (.int .i64 0), (.int .i64 0), (.int .i64 0), (.int .i64 0), (.int .i64 0)])]),
    (.reg [o 3 (.zero [(.int .i64 0), (.int .i64 0), (.int .i64 0), (.int .i64 0), (.int .i64 0), (.int .i64 0)])]),
    (.reg [o 4 (.fieldAddr 0 (T 1)), o 5 (.load false 1 (T 4)), o 6 (.fieldAddr 0 (T 3)), on_ (.store 1 (T 6) (T 5))]),
    (.reg [o 7 (.fieldAddr 1 (T 1)), o 8 (.load false 1 (T 7)), o 9 (.fieldAddr 1 (T 3)), on_ (.store 1 (T 9) (T 8))]),
    (.reg [o 10 (.fieldAddr 2 (T 1)), o 11 (.load false 1 (T 10)), o 12 (.fieldAddr 2 (T 3)), on_ (.store 1 (T 12) (T 11))]),
    (.reg [o 13 (.fieldAddr 3 (T 1)), o 14 (.load true 3 (T 13)), o 15 (.call 40 [(T 14)]), o 16 (.fieldAddr 3 (T 3)), on_ (.store 3 (T 16) (T 15))]),
    (.reg [o 17 (.load true 6 (T 3)), on_ (.store 6 (T 2) (T 17))]),
    .ret])
theorem ok21 : cfn Try.prog Try.f21 1 = some (s21, [.cell 2 true 6]) := by kernel_rfl

/-! 7 laws.toStmtS -/
def s7 : SCode :=
  (sqs [
    (.reg [o 2 (.mov N)]),
    (.reg [o 5 (.mov (T 0)), o 6 (.len (T 5)), o 7 (.make 6 48 [(.int .i64 0), (.int .i64 0), (.int .i64 0), (.int .i64 0), (.int .i64 0), (.int .i64 0)] (T 6)), o 3 (.mov (T 7))]),
    (sqs [
      (.reg [o 4 (.mov (I 0))]),
      (.block 0
        (.loop
          (sqs [
            (sqs [
              (.reg [o 8 (.mov (T 4)), o 9 (.mov (T 0)), o 10 (.len (T 9)), o 11 (.bin .lss (T 8) (T 10))]),
              (.cond (T 11)
                .skip
                (.exit 0))]),
            (.block 1
              (.reg [o 14 (.mov (T 3)), o 15 (.mov (T 4)), o 16 (.mov (T 0)), o 17 (.mov (T 4)), o 18 (.idxAddr 6 (T 16) (T 17)), o 19 (.load true 6 (T 18)), o 20 (.call 21 [(T 19)]), o 21 (.idxAddr 6 (T 14) (T 15)), on_ (.store 6 (T 21) (T 20))])),
            (.reg [o 12 (.mov (T 4)), o 13 (.bin .add (T 12) (I 1)), o 4 (.mov (T 13))])])))]),
    (.reg [o 22 (.mov (T 3)), o 2 (.mov (T 22))]),
    .ret])
theorem ok7 : cfn Try.prog Try.f7 1 = some (s7, [.tmp 2]) := by kernel_rfl

/-! 34 impl.within -/
def s34 : SCode :=
  (sqs [
    (.reg [o 6 (.mov (B false))]),
    (.reg [o 7 (.mov (T 0)), o 8 (.mov (T 1)), o 9 (.bin .geq (T 7) (T 8)), o 10 (.mov (T 9)), og 11 (.mov (T 0)) 10 true, og 12 (.mov (T 2)) 10 true, og 13 (.bin .leq (T 11) (T 12)) 10 true, o 14 (.pick (T 10) (T 13) (B false)), o 6 (.mov (T 14))]),
    .ret])
theorem ok34 : cfn Try.prog Try.f34 3 = some (s34, [.tmp 6]) := by kernel_rfl

/-! 72 impl.OperandOk -/
def s72 : SCode :=
  (sqs [
    (.reg [o 2 (.mov (B false))]),
    (.reg [o 3 (.mov (T 0)), o 4 (.call 34 [(T 3), (I (-8)), (I 999)]), o 2 (.mov (T 4))]),
    .ret])
theorem ok72 : cfn Try.prog Try.f72 1 = some (s72, [.tmp 2]) := by kernel_rfl

/-! 55 impl.ExprOk -/
def s55 : SCode :=
  (sqs [
    (.reg [o 1 (.box 3 (T 0)), o 2 (.mov (B false))]),
    (.reg [o 3 (.fieldAddr 0 (T 1)), o 4 (.load false 1 (T 3)), o 5 (.call 34 [(T 4), (I 1), (I 7)]), o 6 (.mov (T 5)), og 7 (.fieldAddr 1 (T 1)) 6 true, og 8 (.load false 1 (T 7)) 6 true, og 9 (.call 72 [(T 8)]) 6 true, o 10 (.pick (T 6) (T 9) (B false)), o 11 (.mov (T 10)), og 12 (.fieldAddr 2 (T 1)) 11 true, og 13 (.load false 1 (T 12)) 11 true, og 14 (.call 72 [(T 13)]) 11 true, o 15 (.pick (T 11) (T 14) (B false)), o 2 (.mov (T 15))]),
    .ret])
theorem ok55 : cfn Try.prog Try.f55 1 = some (s55, [.tmp 2]) := by kernel_rfl

/-! 66 impl.hasVar -/
def s66 : SCode :=
  (sqs [
    (.reg [o 2 (.mov (B false))]),
    (.reg [o 3 (.mov (T 0)), o 4 (.bin .eql (T 3) (I 1)), o 5 (.mov (T 4)), og 6 (.mov (T 0)) 5 false, og 7 (.bin .eql (T 6) (I 2)) 5 false, o 8 (.pick (T 5) (B true) (T 7)), o 2 (.mov (T 8))]),
    .ret])
theorem ok66 : cfn Try.prog Try.f66 1 = some (s66, [.tmp 2]) := by kernel_rfl

/-! 67 impl.isVar -/
def s67 : SCode :=
  (sqs [
    (.reg [o 2 (.mov (B false))]),
    (.reg [o 3 (.mov (T 0)), o 4 (.call 34 [(T 3), (I 0), (I 7)]), o 2 (.mov (T 4))]),
    .ret])
theorem ok67 : cfn Try.prog Try.f67 1 = some (s67, [.tmp 2]) := by kernel_rfl

/-! 68 impl.hasExpr -/
def s68 : SCode :=
  (sqs [
    (.reg [o 2 (.mov (B false))]),
    (.reg [o 3 (.mov (T 0)), o 4 (.bin .eql (T 3) (I 1)), o 5 (.mov (T 4)), og 6 (.mov (T 0)) 5 false, og 7 (.bin .eql (T 6) (I 3)) 5 false, o 8 (.pick (T 5) (B true) (T 7)), o 9 (.mov (T 8)), og 10 (.mov (T 0)) 9 false, og 11 (.bin .eql (T 10) (I 4)) 9 false, o 12 (.pick (T 9) (B true) (T 11)), o 2 (.mov (T 12))]),
    .ret])
theorem ok68 : cfn Try.prog Try.f68 1 = some (s68, [.tmp 2]) := by kernel_rfl

/-! 69 impl.isSensor -/
def s69 : SCode :=
  (sqs [
    (.reg [o 2 (.mov (B false))]),
    (.reg [o 3 (.mov (T 0)), o 4 (.call 34 [(T 3), (I 0), (I 3)]), o 2 (.mov (T 4))]),
    .ret])
theorem ok69 : cfn Try.prog Try.f69 1 = some (s69, [.tmp 2]) := by kernel_rfl

/-! 41 impl.StmtOk -/
def s41 : SCode :=
  (sqs [
    (.reg [o 1 (.box 6 (T 0)), o 2 (.mov (B false))]),
    (sqs [
      (.reg [o 3 (.fieldAddr 0 (T 1)), o 4 (.load false 1 (T 3)), o 5 (.call 34 [(T 4), (I 1), (I 6)]), o 6 (.not (T 5)), o 7 (.mov (T 6)), og 8 (.fieldAddr 0 (T 1)) 7 false, og 9 (.load false 1 (T 8)) 7 false, og 10 (.call 66 [(T 9)]) 7 false, og 11 (.mov (T 10)) 7 false, og 12 (.fieldAddr 1 (T 1)) 11 true, og 13 (.load false 1 (T 12)) 11 true, og 14 (.call 67 [(T 13)]) 11 true, og 15 (.not (T 14)) 11 true, og 16 (.pick (T 11) (T 15) (B false)) 7 false, o 17 (.pick (T 7) (B true) (T 16)), o 18 (.mov (T 17)), og 19 (.fieldAddr 0 (T 1)) 18 false, og 20 (.load false 1 (T 19)) 18 false, og 21 (.call 66 [(T 20)]) 18 false, og 22 (.not (T 21)) 18 false, og 23 (.mov (T 22)) 18 false, og 24 (.fieldAddr 1 (T 1)) 23 true, og 25 (.load false 1 (T 24)) 23 true, og 26 (.bin .neq (T 25) (I 0)) 23 true, og 27 (.pick (T 23) (T 26) (B false)) 18 false, o 28 (.pick (T 18) (B true) (T 27))]),
      (.cond (T 28)
        (sqs [
          (.reg [o 2 (.mov (B false))]),
          .ret])
        .skip)]),
    (sqs [
      (.reg [o 29 (.fieldAddr 0 (T 1)), o 30 (.load false 1 (T 29)), o 31 (.call 68 [(T 30)]), o 32 (.mov (T 31)), og 33 (.fieldAddr 3 (T 1)) 32 true, og 34 (.load true 3 (T 33)) 32 true, og 35 (.call 55 [(T 34)]) 32 true, og 36 (.not (T 35)) 32 true, o 37 (.pick (T 32) (T 36) (B false)), o 38 (.mov (T 37)), og 39 (.fieldAddr 0 (T 1)) 38 false, og 40 (.load false 1 (T 39)) 38 false, og 41 (.call 68 [(T 40)]) 38 false, og 42 (.not (T 41)) 38 false, og 43 (.mov (T 42)) 38 false, og 44 (.fieldAddr 3 (T 1)) 43 true, og 45 (.load true 3 (T 44)) 43 true, og 46 (.build [(.int .i64 0), (.int .i64 0), (.int .i64 0)] []) 43 true, og 47 (.eqs 46 true (T 45) (T 46)) 43 true, og 48 (.pick (T 43) (T 47) (B false)) 38 false, o 49 (.pick (T 38) (B true) (T 48))]),
      (.cond (T 49)
        (sqs [
          (.reg [o 2 (.mov (B false))]),
          .ret])
        .skip)]),
    (sqs [
      (.reg [o 50 (.fieldAddr 0 (T 1)), o 51 (.load false 1 (T 50))]),
      (.block 0
        (sqs [
          (.reg [o 53 (.bin .eql (T 51) (I 2)), o 52 (.mov (T 53))]),
          (.cond (T 52)
            (sqs [
              (.reg [o 54 (.fieldAddr 2 (T 1)), o 55 (.load false 1 (T 54)), o 56 (.call 69 [(T 55)]), o 2 (.mov (T 56))]),
              .ret])
            (sqs [
              (.reg [o 58 (.bin .eql (T 51) (I 5)), o 57 (.mov (T 58))]),
              (.cond (T 57)
                (sqs [
                  (.reg [o 59 (.fieldAddr 2 (T 1)), o 60 (.load false 1 (T 59)), o 61 (.call 34 [(T 60), (I 1), (I 5)]), o 2 (.mov (T 61))]),
                  .ret])
                .skip)]))]))]),
    (.reg [o 62 (.fieldAddr 2 (T 1)), o 63 (.load false 1 (T 62)), o 64 (.bin .eql (T 63) (I 0)), o 2 (.mov (T 64))]),
    .ret])
theorem ok41 : cfn Try.prog Try.f41 1 = some (s41, [.tmp 2]) := by kernel_rfl

/-! 42 impl.isOpening -/
def s42 : SCode :=
  (sqs [
    (.reg [o 2 (.mov (B false))]),
    (.reg [o 3 (.mov (T 0)), o 4 (.bin .eql (T 3) (I 4)), o 5 (.mov (T 4)), og 6 (.mov (T 0)) 5 false, og 7 (.bin .eql (T 6) (I 5)) 5 false, o 8 (.pick (T 5) (B true) (T 7)), o 2 (.mov (T 8))]),
    .ret])
theorem ok42 : cfn Try.prog Try.f42 1 = some (s42, [.tmp 2]) := by kernel_rfl

/-! 22 impl.BlockOk -/
def s22 : SCode :=
  (sqs [
    (.reg [o 2 (.mov (B false))]),
    (.reg [o 3 (.mov (I 0))]),
    (sqs [
      (.reg [o 6 (.mov (T 0)), o 7 (.len (T 6)), o 8 (.mov (I 0))]),
      (.block 0
        (.loop
          (sqs [
            (.reg [o 9 (.bin .lss (T 8) (T 7))]),
            (.cond (T 9)
              .skip
              (.exit 0)),
            (.block 1
              (sqs [
                (.reg [o 10 (.idxAddr 6 (T 6) (T 8)), o 11 (.load true 6 (T 10)), o 5 (.hole 6), o 5 (.birth 6 (T 5) (T 11))]),
                (sqs [
                  (.reg [o 12 (.load true 6 (T 5)), o 13 (.call 41 [(T 12)]), o 14 (.not (T 13))]),
                  (.cond (T 14)
                    (sqs [
                      (.reg [o 2 (.mov (B false))]),
                      .ret])
                    .skip)]),
                (sqs [
                  (.reg [o 15 (.fieldAddr 0 (T 5)), o 16 (.load false 1 (T 15)), o 17 (.call 42 [(T 16)])]),
                  (.cond (T 17)
                    (.reg [o 18 (.mov (T 3)), o 19 (.bin .add (T 18) (I 1)), o 3 (.mov (T 19))])
                    .skip)]),
                (sqs [
                  (.reg [o 20 (.fieldAddr 0 (T 5)), o 21 (.load false 1 (T 20)), o 22 (.bin .eql (T 21) (I 6))]),
                  (.cond (T 22)
                    (.reg [o 23 (.mov (T 3)), o 24 (.bin .sub (T 23) (I 1)), o 3 (.mov (T 24))])
                    .skip)]),
                (.reg [o 25 (.mov (T 3)), o 26 (.bin .lss (T 25) (I 0)), o 27 (.mov (T 26)), og 28 (.mov (T 3)) 27 false, og 29 (.bin .gtr (T 28) (I 3)) 27 false, o 30 (.pick (T 27) (B true) (T 29))]),
                (.cond (T 30)
                  (sqs [
                    (.reg [o 2 (.mov (B false))]),
                    .ret])
                  .skip)])),
            (.reg [o 31 (.bin .add (T 8) (I 1)), o 8 (.mov (T 31))])])))]),
    (.reg [o 32 (.mov (T 3)), o 33 (.bin .eql (T 32) (I 0)), o 34 (.mov (T 33)), og 35 (.mov (T 0)) 34 true, og 36 (.len (T 35)) 34 true, og 37 (.bin .leq (T 36) (I 24)) 34 true, o 38 (.pick (T 34) (T 37) (B false)), o 2 (.mov (T 38))]),
    .ret])
theorem ok22 : cfn Try.prog Try.f22 1 = some (s22, [.tmp 2]) := by kernel_rfl

/-! 23 impl.DepthOf -/
def s23 : SCode :=
  (sqs [
    (.reg [o 4 (.mov (I 0))]),
    (sqs [
      (.reg [o 8 (.mov (T 0)), o 9 (.call 22 [(T 8)]), o 10 (.not (T 9)), o 11 (.mov (T 10)), og 12 (.mov (T 1)) 11 false, og 13 (.mov (T 0)) 11 false, og 14 (.len (T 13)) 11 false, og 15 (.bin .sub (T 14) (I 1)) 11 false, og 16 (.call 34 [(T 12), (I 0), (T 15)]) 11 false, og 17 (.not (T 16)) 11 false, o 18 (.pick (T 11) (B true) (T 17))]),
      (.cond (T 18)
        (sqs [
          (.reg [o 4 (.mov (I (-1)))]),
          .ret])
        .skip)]),
    (.reg [o 5 (.mov (I 0))]),
    (sqs [
      (.reg [o 19 (.mov (T 0)), o 20 (.mov (T 1)), o 21 (.slice 6 (T 19) none (some (T 20))), o 22 (.len (T 21)), o 23 (.mov (I 0))]),
      (.block 0
        (.loop
          (sqs [
            (.reg [o 24 (.bin .lss (T 23) (T 22))]),
            (.cond (T 24)
              .skip
              (.exit 0)),
            (.block 1
              (sqs [
                (.reg [o 25 (.idxAddr 6 (T 21) (T 23)), o 26 (.load true 6 (T 25)), o 7 (.hole 6), o 7 (.birth 6 (T 7) (T 26))]),
                (sqs [
                  (.reg [o 27 (.fieldAddr 0 (T 7)), o 28 (.load false 1 (T 27)), o 29 (.call 42 [(T 28)])]),
                  (.cond (T 29)
                    (.reg [o 30 (.mov (T 5)), o 31 (.bin .add (T 30) (I 1)), o 5 (.mov (T 31))])
                    .skip)]),
                (.reg [o 32 (.fieldAddr 0 (T 7)), o 33 (.load false 1 (T 32)), o 34 (.bin .eql (T 33) (I 6))]),
                (.cond (T 34)
                  (.reg [o 35 (.mov (T 5)), o 36 (.bin .sub (T 35) (I 1)), o 5 (.mov (T 36))])
                  .skip)])),
            (.reg [o 37 (.bin .add (T 23) (I 1)), o 23 (.mov (T 37))])])))]),
    (.reg [o 38 (.mov (T 5)), o 4 (.mov (T 38))]),
    .ret])
theorem ok23 : cfn Try.prog Try.f23 2 = some (s23, [.tmp 4]) := by kernel_rfl

/-! 8 impl.CutPoints -/
def s8 : SCode :=
  (sqs [
    (.reg [o 2 (.mov N)]),
    (sqs [
      (.reg [o 5 (.mov (T 0)), o 6 (.call 22 [(T 5)]), o 7 (.not (T 6))]),
      (.cond (T 7)
        (sqs [
          (.reg [o 2 (.mov N)]),
          .ret])
        .skip)]),
    (.reg [o 8 (.lit 0 1 [(.int .i64 0)] []), o 3 (.mov (T 8))]),
    (sqs [
      (.reg [o 4 (.mov (I 1))]),
      (.block 0
        (.loop
          (sqs [
            (sqs [
              (.reg [o 9 (.mov (T 4)), o 10 (.mov (T 0)), o 11 (.len (T 10)), o 12 (.bin .lss (T 9) (T 11))]),
              (.cond (T 12)
                .skip
                (.exit 0))]),
            (.block 1
              (sqs [
                (.reg [o 15 (.mov (T 0)), o 16 (.mov (T 4)), o 17 (.call 23 [(T 15), (T 16)]), o 18 (.bin .eql (T 17) (I 0)), o 19 (.mov (T 18)), og 20 (.mov (T 0)) 19 true, og 21 (.mov (T 4)) 19 true, og 22 (.idxAddr 6 (T 20) (T 21)) 19 true, og 23 (.fieldAddr 0 (T 22)) 19 true, og 24 (.load false 1 (T 23)) 19 true, og 25 (.bin .neq (T 24) (I 6)) 19 true, o 26 (.pick (T 19) (T 25) (B false))]),
                (.cond (T 26)
                  (.reg [o 27 (.mov (T 3)), o 28 (.mov (T 4)), o 29 (.lit 1 1 [(.int .i64 0)] [(0, (T 28))]), o 30 (.append 1 8 (T 27) (T 29)), o 3 (.mov (T 30))])
                  .skip)])),
            (.reg [o 13 (.mov (T 4)), o 14 (.bin .add (T 13) (I 1)), o 4 (.mov (T 14))])])))]),
    (.reg [o 31 (.mov (T 3)), o 2 (.mov (T 31))]),
    .ret])
theorem ok8 : cfn Try.prog Try.f8 1 = some (s8, [.tmp 2]) := by kernel_rfl

/-! 9 laws.eqIntS -/
def s9 : SCode :=
  (sqs [
    (.reg [o 4 (.mov (B false))]),
    (sqs [
      (.reg [o 6 (.mov (T 0)), o 7 (.len (T 6)), o 8 (.mov (T 1)), o 9 (.len (T 8)), o 10 (.bin .neq (T 7) (T 9))]),
      (.cond (T 10)
        (sqs [
          (.reg [o 4 (.mov (B false))]),
          .ret])
        .skip)]),
    (sqs [
      (.reg [o 5 (.mov (I 0))]),
      (.block 0
        (.loop
          (sqs [
            (sqs [
              (.reg [o 11 (.mov (T 5)), o 12 (.mov (T 0)), o 13 (.len (T 12)), o 14 (.bin .lss (T 11) (T 13))]),
              (.cond (T 14)
                .skip
                (.exit 0))]),
            (.block 1
              (sqs [
                (.regD [o 17 (.mov (T 0)), o 18 (.mov (T 5)), o 19 (.idxAddr 1 (T 17) (T 18)), ⟨some 20, (.load false 1 (T 19)), none, 3, []⟩, o 21 (.mov (T 1)), o 22 (.mov (T 5)), o 23 (.idxAddr 1 (T 21) (T 22)), ⟨some 24, (.load false 1 (T 23)), none, 7, []⟩, o 25 (.bin .neq (T 20) (T 24))]),
                (.cond (T 25)
                  (sqs [
                    (.reg [o 4 (.mov (B false))]),
                    .ret])
                  .skip)])),
            (.reg [o 15 (.mov (T 5)), o 16 (.bin .add (T 15) (I 1)), o 5 (.mov (T 16))])])))]),
    (.reg [o 4 (.mov (B true))]),
    .ret])
theorem ok9 : cfn Try.prog Try.f9 2 = some (s9, [.tmp 4]) := by kernel_rfl

/-! 43 laws.eqExpr -/
def s43 : SCode :=
  (sqs [
    (.reg [o 2 (.box 3 (T 0)), o 3 (.box 3 (T 1)), o 4 (.mov (B false))]),
    (sqs [
      (.reg [o 5 (.fieldAddr 0 (T 2)), o 6 (.load false 1 (T 5)), o 7 (.fieldAddr 0 (T 3)), o 8 (.load false 1 (T 7)), o 9 (.bin .neq (T 6) (T 8))]),
      (.cond (T 9)
        (sqs [
          (.reg [o 4 (.mov (B false))]),
          .ret])
        .skip)]),
    (sqs [
      (.reg [o 10 (.fieldAddr 1 (T 2)), o 11 (.load false 1 (T 10)), o 12 (.fieldAddr 1 (T 3)), o 13 (.load false 1 (T 12)), o 14 (.bin .neq (T 11) (T 13))]),
      (.cond (T 14)
        (sqs [
          (.reg [o 4 (.mov (B false))]),
          .ret])
        .skip)]),
    (sqs [
      (.reg [o 15 (.fieldAddr 2 (T 2)), o 16 (.load false 1 (T 15)), o 17 (.fieldAddr 2 (T 3)), o 18 (.load false 1 (T 17)), o 19 (.bin .neq (T 16) (T 18))]),
      (.cond (T 19)
        (sqs [
          (.reg [o 4 (.mov (B false))]),
          .ret])
        .skip)]),
    (.reg [o 4 (.mov (B true))]),
    .ret])
theorem ok43 : cfn Try.prog Try.f43 2 = some (s43, [.tmp 4]) := by kernel_rfl

/-! 24 laws.eqStmt -/
def s24 : SCode :=
  (sqs [
    (.reg [o 2 (.box 6 (T 0)), o 3 (.box 6 (T 1)), o 4 (.mov (B false))]),
    (sqs [
      (.reg [o 5 (.fieldAddr 0 (T 2)), o 6 (.load false 1 (T 5)), o 7 (.fieldAddr 0 (T 3)), o 8 (.load false 1 (T 7)), o 9 (.bin .neq (T 6) (T 8))]),
      (.cond (T 9)
        (sqs [
          (.reg [o 4 (.mov (B false))]),
          .ret])
        .skip)]),
    (sqs [
      (.reg [o 10 (.fieldAddr 1 (T 2)), o 11 (.load false 1 (T 10)), o 12 (.fieldAddr 1 (T 3)), o 13 (.load false 1 (T 12)), o 14 (.bin .neq (T 11) (T 13))]),
      (.cond (T 14)
        (sqs [
          (.reg [o 4 (.mov (B false))]),
          .ret])
        .skip)]),
    (sqs [
      (.reg [o 15 (.fieldAddr 2 (T 2)), o 16 (.load false 1 (T 15)), o 17 (.fieldAddr 2 (T 3)), o 18 (.load false 1 (T 17)), o 19 (.bin .neq (T 16) (T 18))]),
      (.cond (T 19)
        (sqs [
          (.reg [o 4 (.mov (B false))]),
          .ret])
        .skip)]),
    (sqs [
      (.reg [o 20 (.fieldAddr 3 (T 2)), o 21 (.load true 3 (T 20)), o 22 (.fieldAddr 3 (T 3)), o 23 (.load true 3 (T 22)), o 24 (.call 43 [(T 21), (T 23)]), o 25 (.not (T 24))]),
      (.cond (T 25)
        (sqs [
          (.reg [o 4 (.mov (B false))]),
          .ret])
        .skip)]),
    (.reg [o 4 (.mov (B true))]),
    .ret])
theorem ok24 : cfn Try.prog Try.f24 2 = some (s24, [.tmp 4]) := by kernel_rfl

/-! 10 laws.eqStmtS -/
def s10 : SCode :=
  (sqs [
    (.reg [o 4 (.mov (B false))]),
    (sqs [
      (.reg [o 6 (.mov (T 0)), o 7 (.len (T 6)), o 8 (.mov (T 1)), o 9 (.len (T 8)), o 10 (.bin .neq (T 7) (T 9))]),
      (.cond (T 10)
        (sqs [
          (.reg [o 4 (.mov (B false))]),
          .ret])
        .skip)]),
    (sqs [
      (.reg [o 5 (.mov (I 0))]),
      (.block 0
        (.loop
          (sqs [
            (sqs [
              (.reg [o 11 (.mov (T 5)), o 12 (.mov (T 0)), o 13 (.len (T 12)), o 14 (.bin .lss (T 11) (T 13))]),
              (.cond (T 14)
                .skip
                (.exit 0))]),
            (.block 1
              (sqs [
                (.regD [o 17 (.mov (T 0)), o 18 (.mov (T 5)), o 19 (.idxAddr 6 (T 17) (T 18)), ⟨some 20, (.load true 6 (T 19)), none, 3, []⟩, o 21 (.mov (T 1)), o 22 (.mov (T 5)), o 23 (.idxAddr 6 (T 21) (T 22)), ⟨some 24, (.load true 6 (T 23)), none, 7, []⟩, o 25 (.call 24 [(T 20), (T 24)]), o 26 (.not (T 25))]),
                (.cond (T 26)
                  (sqs [
                    (.reg [o 4 (.mov (B false))]),
                    .ret])
                  .skip)])),
            (.reg [o 15 (.mov (T 5)), o 16 (.bin .add (T 15) (I 1)), o 5 (.mov (T 16))])])))]),
    (.reg [o 4 (.mov (B true))]),
    .ret])
theorem ok10 : cfn Try.prog Try.f10 2 = some (s10, [.tmp 4]) := by kernel_rfl

/-! 11 laws.markStmtS -/
def s11 : SCode :=
  (sqs [
    (.reg [o 4 (.mov (I 0))]),
    (sqs [
      (.reg [o 5 (.mov (I 0))]),
      (.block 0
        (.loop
          (sqs [
            (sqs [
              (.reg [o 6 (.mov (T 5)), o 7 (.mov (T 0)), o 8 (.len (T 7)), o 9 (.bin .lss (T 6) (T 8))]),
              (.cond (T 9)
                .skip
                (.exit 0))]),
            (.block 1
              (sqs [
                (.reg [o 12 (.mov (T 0)), o 13 (.mov (T 5)), o 14 (.mov (T 1)), o 15 (.idxAddr 6 (T 12) (T 13)), o 16 (.fieldAddr 0 (T 15)), on_ (.store 1 (T 16) (T 14))]),
                (.reg [o 17 (.mov (T 1)), o 18 (.bin .add (T 17) (I 1)), o 1 (.mov (T 18))]),
                (.reg [o 19 (.mov (T 0)), o 20 (.mov (T 5)), o 21 (.mov (T 1)), o 22 (.idxAddr 6 (T 19) (T 20)), o 23 (.fieldAddr 1 (T 22)), on_ (.store 1 (T 23) (T 21))]),
                (.reg [o 24 (.mov (T 1)), o 25 (.bin .add (T 24) (I 1)), o 1 (.mov (T 25))]),
                (.reg [o 26 (.mov (T 0)), o 27 (.mov (T 5)), o 28 (.mov (T 1)), o 29 (.idxAddr 6 (T 26) (T 27)), o 30 (.fieldAddr 2 (T 29)), on_ (.store 1 (T 30) (T 28))]),
                (.reg [o 31 (.mov (T 1)), o 32 (.bin .add (T 31) (I 1)), o 1 (.mov (T 32))]),
                (.reg [o 33 (.mov (T 0)), o 34 (.mov (T 5)), o 35 (.mov (T 1)), o 36 (.idxAddr 6 (T 33) (T 34)), o 37 (.fieldAddr 3 (T 36)), o 38 (.fieldAddr 0 (T 37)), on_ (.store 1 (T 38) (T 35))]),
                (.reg [o 39 (.mov (T 1)), o 40 (.bin .add (T 39) (I 1)), o 1 (.mov (T 40))]),
                (.reg [o 41 (.mov (T 0)), o 42 (.mov (T 5)), o 43 (.mov (T 1)), o 44 (.idxAddr 6 (T 41) (T 42)), o 45 (.fieldAddr 3 (T 44)), o 46 (.fieldAddr 1 (T 45)), on_ (.store 1 (T 46) (T 43))]),
                (.reg [o 47 (.mov (T 1)), o 48 (.bin .add (T 47) (I 1)), o 1 (.mov (T 48))]),
                (.reg [o 49 (.mov (T 0)), o 50 (.mov (T 5)), o 51 (.mov (T 1)), o 52 (.idxAddr 6 (T 49) (T 50)), o 53 (.fieldAddr 3 (T 52)), o 54 (.fieldAddr 2 (T 53)), on_ (.store 1 (T 54) (T 51))]),
                (.reg [o 55 (.mov (T 1)), o 56 (.bin .add (T 55) (I 1)), o 1 (.mov (T 56))])])),
            (.reg [o 10 (.mov (T 5)), o 11 (.bin .add (T 10) (I 1)), o 5 (.mov (T 11))])])))]),
    (.reg [o 57 (.mov (T 1)), o 4 (.mov (T 57))]),
    .ret])
theorem ok11 : cfn Try.prog Try.f11 2 = some (s11, [.tmp 4]) := by kernel_rfl

/-! 12 laws.markIntS -/
def s12 : SCode :=
  (sqs [
    (.reg [o 4 (.mov (I 0))]),
    (sqs [
      (.reg [o 5 (.mov (I 0))]),
      (.block 0
        (.loop
          (sqs [
            (sqs [
              (.reg [o 6 (.mov (T 5)), o 7 (.mov (T 0)), o 8 (.len (T 7)), o 9 (.bin .lss (T 6) (T 8))]),
              (.cond (T 9)
                .skip
                (.exit 0))]),
            (.block 1
              (sqs [
                (.reg [o 12 (.mov (T 0)), o 13 (.mov (T 5)), o 14 (.mov (T 1)), o 15 (.idxAddr 1 (T 12) (T 13)), on_ (.store 1 (T 15) (T 14))]),
                (.reg [o 16 (.mov (T 1)), o 17 (.bin .add (T 16) (I 1)), o 1 (.mov (T 17))])])),
            (.reg [o 10 (.mov (T 5)), o 11 (.bin .add (T 10) (I 1)), o 5 (.mov (T 11))])])))]),
    (.reg [o 18 (.mov (T 1)), o 4 (.mov (T 18))]),
    .ret])
theorem ok12 : cfn Try.prog Try.f12 2 = some (s12, [.tmp 4]) := by kernel_rfl

/-! 13 laws.heldIntS -/
def s13 : SCode :=
  (sqs [
    (.reg [o 4 (.mov (I 0))]),
    (sqs [
      (.reg [o 5 (.mov (I 0))]),
      (.block 0
        (.loop
          (sqs [
            (sqs [
              (.reg [o 6 (.mov (T 5)), o 7 (.mov (T 0)), o 8 (.len (T 7)), o 9 (.bin .lss (T 6) (T 8))]),
              (.cond (T 9)
                .skip
                (.exit 0))]),
            (.block 1
              (sqs [
                (sqs [
                  (.reg [o 12 (.mov (T 0)), o 13 (.mov (T 5)), o 14 (.idxAddr 1 (T 12) (T 13)), o 15 (.load false 1 (T 14)), o 16 (.mov (T 1)), o 17 (.bin .neq (T 15) (T 16))]),
                  (.cond (T 17)
                    (sqs [
                      (.reg [o 4 (.mov (I (-1)))]),
                      .ret])
                    .skip)]),
                (.reg [o 18 (.mov (T 1)), o 19 (.bin .add (T 18) (I 1)), o 1 (.mov (T 19))])])),
            (.reg [o 10 (.mov (T 5)), o 11 (.bin .add (T 10) (I 1)), o 5 (.mov (T 11))])])))]),
    (.reg [o 20 (.mov (T 1)), o 4 (.mov (T 20))]),
    .ret])
theorem ok13 : cfn Try.prog Try.f13 2 = some (s13, [.tmp 4]) := by kernel_rfl

/-! 3 laws.FnExactCutPoints -/
def s3 : SCode :=
  (sqs [
    (.reg [o 2 (.mov (B false))]),
    (.reg [o 3 (.mov (I 1048576))]),
    (.reg [o 11 (.mov (T 0)), o 12 (.mov (T 3)), o 13 (.call 5 [(T 11), (T 12)]), o 3 (.mov (T 13))]),
    (sqs [
      (.reg [o 14 (.mov (T 3)), o 15 (.bin .lss (T 14) (I 0))]),
      (.cond (T 15)
        (sqs [
          (.reg [o 2 (.mov (B true))]),
          .ret])
        .skip)]),
    (.reg [o 16 (.mov (T 0)), o 17 (.call 7 [(T 16)]), o 18 (.call 6 [(T 17)]), o 4 (.mov (T 18))]),
    (.reg [o 19 (.mov (T 0)), o 20 (.call 7 [(T 19)]), o 5 (.mov (T 20))]),
    (.reg [o 21 (.mov (T 5)), o 22 (.call 8 [(T 21)]), o 6 (.mov (T 22))]),
    (sqs [
      (.reg [o 23 (.mov (T 6)), o 24 (.mov (T 4)), o 25 (.call 9 [(T 23), (T 24)]), o 26 (.not (T 25))]),
      (.cond (T 26)
        (sqs [
          (.reg [o 2 (.mov (B false))]),
          .ret])
        .skip)]),
    (sqs [
      (.reg [o 27 (.mov (T 5)), o 28 (.mov (T 0)), o 29 (.call 7 [(T 28)]), o 30 (.call 10 [(T 27), (T 29)]), o 31 (.not (T 30))]),
      (.cond (T 31)
        (sqs [
          (.reg [o 2 (.mov (B false))]),
          .ret])
        .skip)]),
    (.reg [o 7 (.mov (I 1))]),
    (.reg [o 32 (.mov (T 5)), o 33 (.mov (T 7)), o 34 (.call 11 [(T 32), (T 33)]), o 7 (.mov (T 34))]),
    (sqs [
      (.reg [o 35 (.mov (T 7)), o 36 (.bin .lss (T 35) (I 0)), o 37 (.mov (T 36)), og 38 (.mov (T 6)) 37 false, og 39 (.mov (T 4)) 37 false, og 40 (.call 9 [(T 38), (T 39)]) 37 false, og 41 (.not (T 40)) 37 false, o 42 (.pick (T 37) (B true) (T 41))]),
      (.cond (T 42)
        (sqs [
          (.reg [o 2 (.mov (B false))]),
          .ret])
        .skip)]),
    (.reg [o 8 (.mov (I 1))]),
    (.reg [o 43 (.mov (T 6)), o 44 (.mov (T 8)), o 45 (.call 12 [(T 43), (T 44)]), o 8 (.mov (T 45))]),
    (.reg [o 9 (.mov (I 1))]),
    (.reg [o 46 (.mov (T 6)), o 47 (.mov (T 9)), o 48 (.call 13 [(T 46), (T 47)]), o 9 (.mov (T 48))]),
    (sqs [
      (.reg [o 49 (.mov (T 9)), o 50 (.bin .lss (T 49) (I 0))]),
      (.cond (T 50)
        (sqs [
          (.reg [o 2 (.mov (B false))]),
          .ret])
        .skip)]),
    (sqs [
      (.reg [o 51 (.mov (T 9)), o 52 (.mov (T 8)), o 53 (.bin .neq (T 51) (T 52))]),
      (.cond (T 53)
        (sqs [
          (.reg [o 2 (.mov (B false))]),
          .ret])
        .skip)]),
    (.reg [o 54 (.mov (T 0)), o 55 (.call 7 [(T 54)]), o 56 (.call 8 [(T 55)]), o 10 (.mov (T 56))]),
    (sqs [
      (.reg [o 57 (.mov (T 10)), o 58 (.mov (T 4)), o 59 (.call 9 [(T 57), (T 58)]), o 60 (.not (T 59))]),
      (.cond (T 60)
        (sqs [
          (.reg [o 2 (.mov (B false))]),
          .ret])
        .skip)]),
    (.reg [o 9 (.mov (I 1))]),
    (.reg [o 61 (.mov (T 6)), o 62 (.mov (T 9)), o 63 (.call 13 [(T 61), (T 62)]), o 9 (.mov (T 63))]),
    (sqs [
      (.reg [o 64 (.mov (T 9)), o 65 (.bin .lss (T 64) (I 0))]),
      (.cond (T 65)
        (sqs [
          (.reg [o 2 (.mov (B false))]),
          .ret])
        .skip)]),
    (sqs [
      (.reg [o 66 (.mov (T 9)), o 67 (.mov (T 8)), o 68 (.bin .neq (T 66) (T 67))]),
      (.cond (T 68)
        (sqs [
          (.reg [o 2 (.mov (B false))]),
          .ret])
        .skip)]),
    (.reg [o 2 (.mov (B true))]),
    .ret])
theorem ok3 : cfn Try.prog Try.f3 1 = some (s3, [.tmp 2]) := by kernel_rfl

end Go.Av

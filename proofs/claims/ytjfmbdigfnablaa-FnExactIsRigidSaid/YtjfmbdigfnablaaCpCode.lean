/- The program's functions, told. No condition. -/
import Derived.Test.YtjfmbdigfnablaaAv23
import Derived.Test.YtjfmbdigfnablaaProg
namespace Go.Av
open Go.Proofs
set_option linter.unusedVariables false
set_option maxRecDepth 1000000
/-! 3 laws.FnExactCutPoints -/
def s3 : SCode :=
  (sqs [
    (.reg [o 2 (.mov (B false))]),
    (.reg [o 3 (.mov (I 1048576))]),
    (.reg [o 11 (.mov (T 0)), o 12 (.mov (T 3)), o 13 (.call 5 [(T 11), (T 12)]), o 3 (.mov (T 13))]),
    (sqs [
      (.reg [o 14 (.mov (T 3)), o 15 (.bin .lss (T 14) (I 0))]),
      (.cond (T 15)
        (sqs [
          (.reg [o 2 (.mov (B true))]),
          .ret])
        .skip)]),
    (.reg [o 16 (.mov (T 0)), o 17 (.call 7 [(T 16)]), o 18 (.call 6 [(T 17)]), o 4 (.mov (T 18))]),
    (.reg [o 19 (.mov (T 0)), o 20 (.call 7 [(T 19)]), o 5 (.mov (T 20))]),
    (.reg [o 21 (.mov (T 5)), o 22 (.call 8 [(T 21)]), o 6 (.mov (T 22))]),
    (sqs [
      (.reg [o 23 (.mov (T 6)), o 24 (.mov (T 4)), o 25 (.call 9 [(T 23), (T 24)]), o 26 (.not (T 25))]),
      (.cond (T 26)
        (sqs [
          (.reg [o 2 (.mov (B false))]),
          .ret])
        .skip)]),
    (sqs [
      (.reg [o 27 (.mov (T 5)), o 28 (.mov (T 0)), o 29 (.call 7 [(T 28)]), o 30 (.call 10 [(T 27), (T 29)]), o 31 (.not (T 30))]),
      (.cond (T 31)
        (sqs [
          (.reg [o 2 (.mov (B false))]),
          .ret])
        .skip)]),
    (.reg [o 7 (.mov (I 1))]),
    (.reg [o 32 (.mov (T 5)), o 33 (.mov (T 7)), o 34 (.call 11 [(T 32), (T 33)]), o 7 (.mov (T 34))]),
    (sqs [
      (.reg [o 35 (.mov (T 7)), o 36 (.bin .lss (T 35) (I 0)), o 37 (.mov (T 36)), og 38 (.mov (T 6)) 37 false, og 39 (.mov (T 4)) 37 false, og 40 (.call 9 [(T 38), (T 39)]) 37 false, og 41 (.not (T 40)) 37 false, o 42 (.pick (T 37) (B true) (T 41))]),
      (.cond (T 42)
        (sqs [
          (.reg [o 2 (.mov (B false))]),
          .ret])
        .skip)]),
    (.reg [o 8 (.mov (I 1))]),
    (.reg [o 43 (.mov (T 6)), o 44 (.mov (T 8)), o 45 (.call 12 [(T 43), (T 44)]), o 8 (.mov (T 45))]),
    (.reg [o 9 (.mov (I 1))]),
    (.reg [o 46 (.mov (T 6)), o 47 (.mov (T 9)), o 48 (.call 13 [(T 46), (T 47)]), o 9 (.mov (T 48))]),
    (sqs [
      (.reg [o 49 (.mov (T 9)), o 50 (.bin .lss (T 49) (I 0))]),
      (.cond (T 50)
        (sqs [
          (.reg [o 2 (.mov (B false))]),
          .ret])
        .skip)]),
    (sqs [
      (.reg [o 51 (.mov (T 9)), o 52 (.mov (T 8)), o 53 (.bin .neq (T 51) (T 52))]),
      (.cond (T 53)
        (sqs [
          (.reg [o 2 (.mov (B false))]),
          .ret])
        .skip)]),
    (.reg [o 54 (.mov (T 0)), o 55 (.call 7 [(T 54)]), o 56 (.call 8 [(T 55)]), o 10 (.mov (T 56))]),
    (sqs [
      (.reg [o 57 (.mov (T 10)), o 58 (.mov (T 4)), o 59 (.call 9 [(T 57), (T 58)]), o 60 (.not (T 59))]),
      (.cond (T 60)
        (sqs [
          (.reg [o 2 (.mov (B false))]),
          .ret])
        .skip)]),
    (.reg [o 9 (.mov (I 1))]),
    (.reg [o 61 (.mov (T 6)), o 62 (.mov (T 9)), o 63 (.call 13 [(T 61), (T 62)]), o 9 (.mov (T 63))]),
    (sqs [
      (.reg [o 64 (.mov (T 9)), o 65 (.bin .lss (T 64) (I 0))]),
      (.cond (T 65)
        (sqs [
          (.reg [o 2 (.mov (B false))]),
          .ret])
        .skip)]),
    (sqs [
      (.reg [o 66 (.mov (T 9)), o 67 (.mov (T 8)), o 68 (.bin .neq (T 66) (T 67))]),
      (.cond (T 68)
        (sqs [
          (.reg [o 2 (.mov (B false))]),
          .ret])
        .skip)]),
    (.reg [o 2 (.mov (B true))]),
    .ret])
theorem ok3 : cfn Try.prog Try.f3 1 = some (s3, [.tmp 2]) := by kernel_rfl

/-! 4 laws.FnExactIsRigid -/
def s4 : SCode :=
  (sqs [
    (.reg [o 1 (.box 1 (T 0)), o 2 (.mov (B false))]),
    (.reg [o 3 (.mov (I 1048576))]),
    (.reg [o 7 (.load true 1 (T 1)), o 8 (.mov (T 3)), o 9 (.call 14 [(T 7), (T 8)]), o 3 (.mov (T 9))]),
    (sqs [
      (.reg [o 10 (.mov (T 3)), o 11 (.bin .lss (T 10) (I 0))]),
      (.cond (T 11)
        (sqs [
          (.reg [o 2 (.mov (B true))]),
          .ret])
        .skip)]),
    (.reg [o 12 (.load true 1 (T 1)), o 13 (.call 16 [(T 12)]), o 14 (.call 15 [(T 13)]), o 4 (.mov (T 14))]),
    (.reg [o 15 (.load true 1 (T 1)), o 16 (.call 16 [(T 15)]), o 5 (.hole 1), o 5 (.birth 1 (T 5) (T 16))]),
    (.reg [o 17 (.load true 1 (T 5)), o 18 (.call 17 [(T 17)]), o 6 (.mov (T 18))]),
    (sqs [
      (.reg [o 19 (.mov (T 6)), o 20 (.mov (T 4)), o 21 (.beq true (T 19) (T 20))]),
      (.cond (T 21)
        (sqs [
          (.reg [o 2 (.mov (B false))]),
          .ret])
        .skip)]),
    (sqs [
      (.regD [o 22 (.load true 1 (T 5)), ⟨some 23, (.load true 1 (T 1)), none, 1, []⟩, ⟨some 24, (.call 16 [(T 23)]), none, 0, [0]⟩, o 25 (.call 18 [(T 22), (T 24)]), o 26 (.not (T 25))]),
      (.cond (T 26)
        (sqs [
          (.reg [o 2 (.mov (B false))]),
          .ret])
        .skip)]),
    (.reg [o 2 (.mov (B true))]),
    .ret])
theorem ok4 : cfn Try.prog Try.f4 1 = some (s4, [.tmp 2]) := by kernel_rfl

/-! 5 laws.szStmtS -/
def s5 : SCode :=
  (sqs [
    (.reg [o 4 (.mov (I 0))]),
    (.reg [o 5 (.mov (T 1)), o 6 (.mov (T 0)), o 7 (.len (T 6)), o 8 (.bin .sub (T 5) (T 7)), o 1 (.mov (T 8))]),
    (sqs [
      (.reg [o 9 (.mov (T 1)), o 10 (.bin .lss (T 9) (I 0))]),
      (.cond (T 10)
        (sqs [
          (.reg [o 4 (.mov (I (-1)))]),
          .ret])
        .skip)]),
    (.reg [o 11 (.mov (T 1)), o 4 (.mov (T 11))]),
    .ret])
theorem ok5 : cfn Try.prog Try.f5 2 = some (s5, [.tmp 4]) := by kernel_rfl

/-! 6 spec.CutPoints -/
def s6 : SCode :=
  (sqs [
    (.reg [o 2 (.mov N)]),
    (.reg [o 5 (.lit 0 1 [(.int .i64 0)] []), o 3 (.mov (T 5))]),
    (sqs [
      (.reg [o 4 (.mov (I 1))]),
      (.block 0
        (.loop
          (sqs [
            (sqs [
              (.reg [o 6 (.mov (T 4)), o 7 (.mov (T 0)), o 8 (.len (T 7)), o 9 (.bin .lss (T 6) (T 8)), o 10 (.mov (T 9)), og 11 (.mov (T 0)) 10 true, og 12 (.call 19 [(T 11)]) 10 true, o 13 (.pick (T 10) (T 12) (B false))]),
              (.cond (T 13)
                .skip
                (.exit 0))]),
            (.block 1
              (sqs [
                (.reg [o 16 (.mov (T 0)), o 17 (.mov (T 4)), o 18 (.idxAddr 6 (T 16) (T 17)), o 19 (.fieldAddr 0 (T 18)), o 20 (.load false 1 (T 19)), o 21 (.bin .neq (T 20) (I 6)), o 22 (.mov (T 21)), og 23 (.mov (T 0)) 22 true, og 24 (.mov (T 4)) 22 true, og 25 (.call 20 [(T 23), (T 24)]) 22 true, og 26 (.bin .eql (T 25) (I 0)) 22 true, o 27 (.pick (T 22) (T 26) (B false))]),
                (.cond (T 27)
                  (.reg [o 28 (.mov (T 3)), o 29 (.mov (T 4)), o 30 (.lit 1 1 [(.int .i64 0)] [(0, (T 29))]), o 31 (.append 1 8 (T 28) (T 30)), o 3 (.mov (T 31))])
                  .skip)])),
            (.reg [o 14 (.mov (T 4)), o 15 (.bin .add (T 14) (I 1)), o 4 (.mov (T 15))])])))]),
    (.reg [o 32 (.mov (T 3)), o 2 (.mov (T 32))]),
    .ret])
theorem ok6 : cfn Try.prog Try.f6 1 = some (s6, [.tmp 2]) := by kernel_rfl

/-! 7 laws.toStmtS -/
def s7 : SCode :=
  (sqs [
    (.reg [o 2 (.mov N)]),
    (.reg [o 5 (.mov (T 0)), o 6 (.len (T 5)), o 7 (.make 6 48 [(.int .i64 0), (.int .i64 0), (.int .i64 0), (.int .i64 0), (.int .i64 0), (.int .i64 0)] (T 6)), o 3 (.mov (T 7))]),
    (sqs [
      (.reg [o 4 (.mov (I 0))]),
      (.block 0
        (.loop
          (sqs [
            (sqs [
              (.reg [o 8 (.mov (T 4)), o 9 (.mov (T 0)), o 10 (.len (T 9)), o 11 (.bin .lss (T 8) (T 10))]),
              (.cond (T 11)
                .skip
                (.exit 0))]),
            (.block 1
              (.reg [o 14 (.mov (T 3)), o 15 (.mov (T 4)), o 16 (.mov (T 0)), o 17 (.mov (T 4)), o 18 (.idxAddr 6 (T 16) (T 17)), o 19 (.load true 6 (T 18)), o 20 (.call 21 [(T 19)]), o 21 (.idxAddr 6 (T 14) (T 15)), on_ (.store 6 (T 21) (T 20))])),
            (.reg [o 12 (.mov (T 4)), o 13 (.bin .add (T 12) (I 1)), o 4 (.mov (T 13))])])))]),
    (.reg [o 22 (.mov (T 3)), o 2 (.mov (T 22))]),
    .ret])
theorem ok7 : cfn Try.prog Try.f7 1 = some (s7, [.tmp 2]) := by kernel_rfl

/-! 8 impl.CutPoints -/
def s8 : SCode :=
  (sqs [
    (.reg [o 2 (.mov N)]),
    (sqs [
      (.reg [o 5 (.mov (T 0)), o 6 (.call 22 [(T 5)]), o 7 (.not (T 6))]),
      (.cond (T 7)
        (sqs [
          (.reg [o 2 (.mov N)]),
          .ret])
        .skip)]),
    (.reg [o 8 (.lit 0 1 [(.int .i64 0)] []), o 3 (.mov (T 8))]),
    (sqs [
      (.reg [o 4 (.mov (I 1))]),
      (.block 0
        (.loop
          (sqs [
            (sqs [
              (.reg [o 9 (.mov (T 4)), o 10 (.mov (T 0)), o 11 (.len (T 10)), o 12 (.bin .lss (T 9) (T 11))]),
              (.cond (T 12)
                .skip
                (.exit 0))]),
            (.block 1
              (sqs [
                (.reg [o 15 (.mov (T 0)), o 16 (.mov (T 4)), o 17 (.call 23 [(T 15), (T 16)]), o 18 (.bin .eql (T 17) (I 0)), o 19 (.mov (T 18)), og 20 (.mov (T 0)) 19 true, og 21 (.mov (T 4)) 19 true, og 22 (.idxAddr 6 (T 20) (T 21)) 19 true, og 23 (.fieldAddr 0 (T 22)) 19 true, og 24 (.load false 1 (T 23)) 19 true, og 25 (.bin .neq (T 24) (I 6)) 19 true, o 26 (.pick (T 19) (T 25) (B false))]),
                (.cond (T 26)
                  (.reg [o 27 (.mov (T 3)), o 28 (.mov (T 4)), o 29 (.lit 1 1 [(.int .i64 0)] [(0, (T 28))]), o 30 (.append 1 8 (T 27) (T 29)), o 3 (.mov (T 30))])
                  .skip)])),
            (.reg [o 13 (.mov (T 4)), o 14 (.bin .add (T 13) (I 1)), o 4 (.mov (T 14))])])))]),
    (.reg [o 31 (.mov (T 3)), o 2 (.mov (T 31))]),
    .ret])
theorem ok8 : cfn Try.prog Try.f8 1 = some (s8, [.tmp 2]) := by kernel_rfl

/-! 9 laws.eqIntS -/
def s9 : SCode :=
  (sqs [
    (.reg [o 4 (.mov (B false))]),
    (sqs [
      (.reg [o 6 (.mov (T 0)), o 7 (.len (T 6)), o 8 (.mov (T 1)), o 9 (.len (T 8)), o 10 (.bin .neq (T 7) (T 9))]),
      (.cond (T 10)
        (sqs [
          (.reg [o 4 (.mov (B false))]),
          .ret])
        .skip)]),
    (sqs [
      (.reg [o 5 (.mov (I 0))]),
      (.block 0
        (.loop
          (sqs [
            (sqs [
              (.reg [o 11 (.mov (T 5)), o 12 (.mov (T 0)), o 13 (.len (T 12)), o 14 (.bin .lss (T 11) (T 13))]),
              (.cond (T 14)
                .skip
                (.exit 0))]),
            (.block 1
              (sqs [
                (.regD [o 17 (.mov (T 0)), o 18 (.mov (T 5)), o 19 (.idxAddr 1 (T 17) (T 18)), ⟨some 20, (.load false 1 (T 19)), none, 3, []⟩, o 21 (.mov (T 1)), o 22 (.mov (T 5)), o 23 (.idxAddr 1 (T 21) (T 22)), ⟨some 24, (.load false 1 (T 23)), none, 7, []⟩, o 25 (.bin .neq (T 20) (T 24))]),
                (.cond (T 25)
                  (sqs [
                    (.reg [o 4 (.mov (B false))]),
                    .ret])
                  .skip)])),
            (.reg [o 15 (.mov (T 5)), o 16 (.bin .add (T 15) (I 1)), o 5 (.mov (T 16))])])))]),
    (.reg [o 4 (.mov (B true))]),
    .ret])
theorem ok9 : cfn Try.prog Try.f9 2 = some (s9, [.tmp 4]) := by kernel_rfl

/-! 10 laws.eqStmtS -/
def s10 : SCode :=
  (sqs [
    (.reg [o 4 (.mov (B false))]),
    (sqs [
      (.reg [o 6 (.mov (T 0)), o 7 (.len (T 6)), o 8 (.mov (T 1)), o 9 (.len (T 8)), o 10 (.bin .neq (T 7) (T 9))]),
      (.cond (T 10)
        (sqs [
          (.reg [o 4 (.mov (B false))]),
          .ret])
        .skip)]),
    (sqs [
      (.reg [o 5 (.mov (I 0))]),
      (.block 0
        (.loop
          (sqs [
            (sqs [
              (.reg [o 11 (.mov (T 5)), o 12 (.mov (T 0)), o 13 (.len (T 12)), o 14 (.bin .lss (T 11) (T 13))]),
              (.cond (T 14)
                .skip
                (.exit 0))]),
            (.block 1
              (sqs [
                (.regD [o 17 (.mov (T 0)), o 18 (.mov (T 5)), o 19 (.idxAddr 6 (T 17) (T 18)), ⟨some 20, (.load true 6 (T 19)), none, 3, []⟩, o 21 (.mov (T 1)), o 22 (.mov (T 5)), o 23 (.idxAddr 6 (T 21) (T 22)), ⟨some 24, (.load true 6 (T 23)), none, 7, []⟩, o 25 (.call 24 [(T 20), (T 24)]), o 26 (.not (T 25))]),
                (.cond (T 26)
                  (sqs [
                    (.reg [o 4 (.mov (B false))]),
                    .ret])
                  .skip)])),
            (.reg [o 15 (.mov (T 5)), o 16 (.bin .add (T 15) (I 1)), o 5 (.mov (T 16))])])))]),
    (.reg [o 4 (.mov (B true))]),
    .ret])
theorem ok10 : cfn Try.prog Try.f10 2 = some (s10, [.tmp 4]) := by kernel_rfl

/-! 11 laws.markStmtS -/
def s11 : SCode :=
  (sqs [
    (.reg [o 4 (.mov (I 0))]),
    (sqs [
      (.reg [o 5 (.mov (I 0))]),
      (.block 0
        (.loop
          (sqs [
            (sqs [
              (.reg [o 6 (.mov (T 5)), o 7 (.mov (T 0)), o 8 (.len (T 7)), o 9 (.bin .lss (T 6) (T 8))]),
              (.cond (T 9)
                .skip
                (.exit 0))]),
            (.block 1
              (sqs [
                (.reg [o 12 (.mov (T 0)), o 13 (.mov (T 5)), o 14 (.mov (T 1)), o 15 (.idxAddr 6 (T 12) (T 13)), o 16 (.fieldAddr 0 (T 15)), on_ (.store 1 (T 16) (T 14))]),
                (.reg [o 17 (.mov (T 1)), o 18 (.bin .add (T 17) (I 1)), o 1 (.mov (T 18))]),
                (.reg [o 19 (.mov (T 0)), o 20 (.mov (T 5)), o 21 (.mov (T 1)), o 22 (.idxAddr 6 (T 19) (T 20)), o 23 (.fieldAddr 1 (T 22)), on_ (.store 1 (T 23) (T 21))]),
                (.reg [o 24 (.mov (T 1)), o 25 (.bin .add (T 24) (I 1)), o 1 (.mov (T 25))]),
                (.reg [o 26 (.mov (T 0)), o 27 (.mov (T 5)), o 28 (.mov (T 1)), o 29 (.idxAddr 6 (T 26) (T 27)), o 30 (.fieldAddr 2 (T 29)), on_ (.store 1 (T 30) (T 28))]),
                (.reg [o 31 (.mov (T 1)), o 32 (.bin .add (T 31) (I 1)), o 1 (.mov (T 32))]),
                (.reg [o 33 (.mov (T 0)), o 34 (.mov (T 5)), o 35 (.mov (T 1)), o 36 (.idxAddr 6 (T 33) (T 34)), o 37 (.fieldAddr 3 (T 36)), o 38 (.fieldAddr 0 (T 37)), on_ (.store 1 (T 38) (T 35))]),
                (.reg [o 39 (.mov (T 1)), o 40 (.bin .add (T 39) (I 1)), o 1 (.mov (T 40))]),
                (.reg [o 41 (.mov (T 0)), o 42 (.mov (T 5)), o 43 (.mov (T 1)), o 44 (.idxAddr 6 (T 41) (T 42)), o 45 (.fieldAddr 3 (T 44)), o 46 (.fieldAddr 1 (T 45)), on_ (.store 1 (T 46) (T 43))]),
                (.reg [o 47 (.mov (T 1)), o 48 (.bin .add (T 47) (I 1)), o 1 (.mov (T 48))]),
                (.reg [o 49 (.mov (T 0)), o 50 (.mov (T 5)), o 51 (.mov (T 1)), o 52 (.idxAddr 6 (T 49) (T 50)), o 53 (.fieldAddr 3 (T 52)), o 54 (.fieldAddr 2 (T 53)), on_ (.store 1 (T 54) (T 51))]),
                (.reg [o 55 (.mov (T 1)), o 56 (.bin .add (T 55) (I 1)), o 1 (.mov (T 56))])])),
            (.reg [o 10 (.mov (T 5)), o 11 (.bin .add (T 10) (I 1)), o 5 (.mov (T 11))])])))]),
    (.reg [o 57 (.mov (T 1)), o 4 (.mov (T 57))]),
    .ret])
theorem ok11 : cfn Try.prog Try.f11 2 = some (s11, [.tmp 4]) := by kernel_rfl

/-! 12 laws.markIntS -/
def s12 : SCode :=
  (sqs [
    (.reg [o 4 (.mov (I 0))]),
    (sqs [
      (.reg [o 5 (.mov (I 0))]),
      (.block 0
        (.loop
          (sqs [
            (sqs [
              (.reg [o 6 (.mov (T 5)), o 7 (.mov (T 0)), o 8 (.len (T 7)), o 9 (.bin .lss (T 6) (T 8))]),
              (.cond (T 9)
                .skip
                (.exit 0))]),
            (.block 1
              (sqs [
                (.reg [o 12 (.mov (T 0)), o 13 (.mov (T 5)), o 14 (.mov (T 1)), o 15 (.idxAddr 1 (T 12) (T 13)), on_ (.store 1 (T 15) (T 14))]),
                (.reg [o 16 (.mov (T 1)), o 17 (.bin .add (T 16) (I 1)), o 1 (.mov (T 17))])])),
            (.reg [o 10 (.mov (T 5)), o 11 (.bin .add (T 10) (I 1)), o 5 (.mov (T 11))])])))]),
    (.reg [o 18 (.mov (T 1)), o 4 (.mov (T 18))]),
    .ret])
theorem ok12 : cfn Try.prog Try.f12 2 = some (s12, [.tmp 4]) := by kernel_rfl

/-! 13 laws.heldIntS -/
def s13 : SCode :=
  (sqs [
    (.reg [o 4 (.mov (I 0))]),
    (sqs [
      (.reg [o 5 (.mov (I 0))]),
      (.block 0
        (.loop
          (sqs [
            (sqs [
              (.reg [o 6 (.mov (T 5)), o 7 (.mov (T 0)), o 8 (.len (T 7)), o 9 (.bin .lss (T 6) (T 8))]),
              (.cond (T 9)
                .skip
                (.exit 0))]),
            (.block 1
              (sqs [
                (sqs [
                  (.reg [o 12 (.mov (T 0)), o 13 (.mov (T 5)), o 14 (.idxAddr 1 (T 12) (T 13)), o 15 (.load false 1 (T 14)), o 16 (.mov (T 1)), o 17 (.bin .neq (T 15) (T 16))]),
                  (.cond (T 17)
                    (sqs [
                      (.reg [o 4 (.mov (I (-1)))]),
                      .ret])
                    .skip)]),
                (.reg [o 18 (.mov (T 1)), o 19 (.bin .add (T 18) (I 1)), o 1 (.mov (T 19))])])),
            (.reg [o 10 (.mov (T 5)), o 11 (.bin .add (T 10) (I 1)), o 5 (.mov (T 11))])])))]),
    (.reg [o 20 (.mov (T 1)), o 4 (.mov (T 20))]),
    .ret])
theorem ok13 : cfn Try.prog Try.f13 2 = some (s13, [.tmp 4]) := by kernel_rfl

/-! 14 laws.szProgram -/
def s14 : SCode :=
  (sqs [
    (.reg [o 2 (.box 1 (T 0)), o 4 (.mov (I 0))]),
    (.reg [o 5 (.fieldAddr 0 (T 2)), o 6 (.load false 1 (T 5)), o 7 (.mov (T 1)), o 8 (.call 25 [(T 6), (T 7)]), o 1 (.mov (T 8))]),
    (sqs [
      (.reg [o 9 (.mov (T 1)), o 10 (.bin .lss (T 9) (I 0))]),
      (.cond (T 10)
        (sqs [
          (.reg [o 4 (.mov (I (-1)))]),
          .ret])
        .skip)]),
    (.reg [o 11 (.mov (T 1)), o 4 (.mov (T 11))]),
    .ret])
theorem ok14 : cfn Try.prog Try.f14 2 = some (s14, [.tmp 4]) := by kernel_rfl

/-! 15 spec.IsRigid -/
def s15 : SCode :=
  (sqs [
    (.reg [o 1 (.box 1 (T 0)), o 2 (.mov (B false))]),
    (sqs [
      (.reg [o 5 (.load true 1 (T 1)), o 6 (.call 26 [(T 5)]), o 7 (.not (T 6))]),
      (.cond (T 7)
        (sqs [
          (.reg [o 2 (.mov (B false))]),
          .ret])
        .skip)]),
    (.reg [o 8 (.make 1 8 [(.int .i64 0)] (I 8)), o 3 (.mov (T 8))]),
    (sqs [
      (.reg [o 4 (.mov (I 0))]),
      (.block 0
        (.loop
          (sqs [
            (sqs [
              (.reg [o 9 (.mov (T 4)), o 10 (.fieldAddr 0 (T 1)), o 11 (.load false 1 (T 10)), o 12 (.len (T 11)), o 13 (.bin .lss (T 9) (T 12))]),
              (.cond (T 13)
                .skip
                (.exit 0))]),
            (.block 1
              (sqs [
                (.regD [o 16 (.fieldAddr 0 (T 1)), ⟨some 17, (.load false 1 (T 16)), none, 1, []⟩, o 18 (.mov (T 4)), o 19 (.idxAddr 4 (T 17) (T 18)), o 20 (.fieldAddr 1 (T 19)), o 21 (.fieldAddr 1 (T 20)), ⟨some 22, (.load false 1 (T 21)), none, 6, []⟩, o 23 (.bin .lss (T 22) (I 0)), o 24 (.mov (T 23)), og 25 (.fieldAddr 0 (T 1)) 24 false, ⟨some 26, (.load false 1 (T 25)), some (24, false), 10, []⟩, og 27 (.mov (T 4)) 24 false, og 28 (.idxAddr 4 (T 26) (T 27)) 24 false, og 29 (.fieldAddr 1 (T 28)) 24 false, og 30 (.fieldAddr 2 (T 29)) 24 false, ⟨some 31, (.load false 1 (T 30)), some (24, false), 15, []⟩, og 32 (.bin .lss (T 31) (I 0)) 24 false, o 33 (.pick (T 24) (B true) (T 32)), o 34 (.mov (T 33)), og 35 (.mov (T 3)) 34 false, og 36 (.fieldAddr 0 (T 1)) 34 false, ⟨some 37, (.load false 1 (T 36)), some (34, false), 21, []⟩, og 38 (.mov (T 4)) 34 false, og 39 (.idxAddr 4 (T 37) (T 38)) 34 false, og 40 (.fieldAddr 1 (T 39)) 34 false, ⟨some 41, (.load true 3 (T 40)), some (34, false), 25, []⟩, og 43 (.fieldAddr 0 (T 1)) 34 false, ⟨some 44, (.load false 1 (T 43)), some (34, false), 28, []⟩, og 45 (.len (T 44)) 34 false, og 46 (.bin .sub (T 45) (I 1)) 34 false, ⟨some 42, (.call 28 [(T 35), (T 41)]), some (34, false), 0, [28]⟩, og 47 (.call 27 [(T 42), (I 0), (T 46)]) 34 false, og 48 (.not (T 47)) 34 false, o 49 (.pick (T 34) (B true) (T 48))]),
                (.cond (T 49)
                  (sqs [
                    (.reg [o 2 (.mov (B false))]),
                    .ret])
                  .skip)])),
            (.reg [o 14 (.mov (T 4)), o 15 (.bin .add (T 14) (I 1)), o 4 (.mov (T 15))])])))]),
    (.reg [o 2 (.mov (B true))]),
    .ret])
theorem ok15 : cfn Try.prog Try.f15 1 = some (s15, [.tmp 2]) := by kernel_rfl

/-! 16 laws.toProgram -/
def s16 : SCode :=
  (sqs [
    (.reg [o 1 (.box 1 (T 0)), o 2 (.zero [.nils])]),
    (.reg [o 3 (.zero [.nils])]),
    (.reg [o 4 (.fieldAddr 0 (T 1)), o 5 (.load false 1 (T 4)), o 6 (.call 29 [(T 5)]), o 7 (.fieldAddr 0 (T 3)), on_ (.store 1 (T 7) (T 6))]),
    (.reg [o 8 (.load true 1 (T 3)), on_ (.store 1 (T 2) (T 8))]),
    .ret])
theorem ok16 : cfn Try.prog Try.f16 1 = some (s16, [.cell 2 true 1]) := by kernel_rfl

/-! 17 impl.IsRigid -/
def s17 : SCode :=
  (sqs [
    (.reg [o 1 (.box 1 (T 0)), o 2 (.mov (B false))]),
    (.reg [o 4 (.make 1 8 [(.int .i64 0)] (I 8)), o 3 (.hole 1), o 3 (.birth 1 (T 3) (T 4))]),
    (.reg [o 5 (.load true 1 (T 1)), o 6 (.call 30 [(T 5)]), o 7 (.mov (T 6)), og 8 (.fieldAddr 0 (T 1)) 7 true, og 9 (.load false 1 (T 8)) 7 true, og 10 (.mkfn 32 [(T 3), (T 1)]) 7 true, og 11 (.call 31 [(T 9), (T 10)]) 7 true, og 12 (.not (T 11)) 7 true, o 13 (.pick (T 7) (T 12) (B false)), o 2 (.mov (T 13))]),
    .ret])
theorem ok17 : cfn Try.prog Try.f17 1 = some (s17, [.tmp 2]) := by kernel_rfl

/-! 18 laws.eqProgram -/
def s18 : SCode :=
  (sqs [
    (.reg [o 2 (.box 1 (T 0)), o 3 (.box 1 (T 1)), o 4 (.mov (B false))]),
    (sqs [
      (.reg [o 5 (.fieldAddr 0 (T 2)), o 6 (.load false 1 (T 5)), o 7 (.fieldAddr 0 (T 3)), o 8 (.load false 1 (T 7)), o 9 (.call 36 [(T 6), (T 8)]), o 10 (.not (T 9))]),
      (.cond (T 10)
        (sqs [
          (.reg [o 4 (.mov (B false))]),
          .ret])
        .skip)]),
    (.reg [o 4 (.mov (B true))]),
    .ret])
theorem ok18 : cfn Try.prog Try.f18 2 = some (s18, [.tmp 4]) := by kernel_rfl

/-! 19 spec.BlockOk -/
def s19 : SCode :=
  (sqs [
    (.reg [o 2 (.mov (B false))]),
    (.reg [o 3 (.mov (I 0))]),
    (sqs [
      (.reg [o 4 (.mov (I 0))]),
      (.block 0
        (.loop
          (sqs [
            (sqs [
              (.reg [o 5 (.mov (T 4)), o 6 (.mov (T 0)), o 7 (.len (T 6)), o 8 (.bin .lss (T 5) (T 7))]),
              (.cond (T 8)
                .skip
                (.exit 0))]),
            (.block 1
              (sqs [
                (sqs [
                  (.reg [o 11 (.mov (T 0)), o 12 (.mov (T 4)), o 13 (.idxAddr 6 (T 11) (T 12)), o 14 (.load true 6 (T 13)), o 15 (.call 37 [(T 14)]), o 16 (.not (T 15))]),
                  (.cond (T 16)
                    (sqs [
                      (.reg [o 2 (.mov (B false))]),
                      .ret])
                    .skip)]),
                (sqs [
                  (.reg [o 17 (.mov (T 0)), o 18 (.mov (T 4)), o 19 (.idxAddr 6 (T 17) (T 18)), o 20 (.fieldAddr 0 (T 19)), o 21 (.load false 1 (T 20))]),
                  (.block 2
                    (sqs [
                      (sqs [
                        (.reg [o 23 (.bin .eql (T 21) (I 4)), o 22 (.mov (T 23))]),
                        (.cond (T 22)
                          .skip
                          (.reg [o 24 (.bin .eql (T 21) (I 5)), o 22 (.mov (T 24))]))]),
                      (.cond (T 22)
                        (.reg [o 25 (.mov (T 3)), o 26 (.bin .add (T 25) (I 1)), o 3 (.mov (T 26))])
                        (sqs [
                          (.reg [o 28 (.bin .eql (T 21) (I 6)), o 27 (.mov (T 28))]),
                          (.cond (T 27)
                            (.reg [o 29 (.mov (T 3)), o 30 (.bin .sub (T 29) (I 1)), o 3 (.mov (T 30))])
                            .skip)]))]))]),
                (.reg [o 31 (.mov (T 3)), o 32 (.call 27 [(T 31), (I 0), (I 3)]), o 33 (.not (T 32))]),
                (.cond (T 33)
                  (sqs [
                    (.reg [o 2 (.mov (B false))]),
                    .ret])
                  .skip)])),
            (.reg [o 9 (.mov (T 4)), o 10 (.bin .add (T 9) (I 1)), o 4 (.mov (T 10))])])))]),
    (.reg [o 34 (.mov (T 3)), o 35 (.bin .eql (T 34) (I 0)), o 36 (.mov (T 35)), og 37 (.mov (T 0)) 36 true, og 38 (.len (T 37)) 36 true, og 39 (.bin .leq (T 38) (I 24)) 36 true, o 40 (.pick (T 36) (T 39) (B false)), o 2 (.mov (T 40))]),
    .ret])
theorem ok19 : cfn Try.prog Try.f19 1 = some (s19, [.tmp 2]) := by kernel_rfl

/-! 20 spec.DepthOf -/
def s20 : SCode :=
  (sqs [
    (.reg [o 4 (.mov (I 0))]),
    (sqs [
      (.reg [o 7 (.mov (T 0)), o 8 (.call 19 [(T 7)]), o 9 (.not (T 8)), o 10 (.mov (T 9)), og 11 (.mov (T 1)) 10 false, og 12 (.mov (T 0)) 10 false, og 13 (.len (T 12)) 10 false, og 14 (.bin .sub (T 13) (I 1)) 10 false, og 15 (.call 27 [(T 11), (I 0), (T 14)]) 10 false, og 16 (.not (T 15)) 10 false, o 17 (.pick (T 10) (B true) (T 16))]),
      (.cond (T 17)
        (sqs [
          (.reg [o 4 (.mov (I (-1)))]),
          .ret])
        .skip)]),
    (.reg [o 5 (.mov (I 0))]),
    (sqs [
      (.reg [o 6 (.mov (I 0))]),
      (.block 0
        (.loop
          (sqs [
            (sqs [
              (.reg [o 18 (.mov (T 6)), o 19 (.mov (T 1)), o 20 (.bin .lss (T 18) (T 19))]),
              (.cond (T 20)
                .skip
                (.exit 0))]),
            (.block 1
              (sqs [
                (.reg [o 23 (.mov (T 0)), o 24 (.mov (T 6)), o 25 (.idxAddr 6 (T 23) (T 24)), o 26 (.load true 6 (T 25)), o 27 (.call 38 [(T 26)]), o 28 (.mov (T 27)), og 29 (.mov (T 0)) 28 true, og 30 (.mov (T 6)) 28 true, og 31 (.call 39 [(T 29), (T 30)]) 28 true, og 32 (.mov (T 1)) 28 true, og 33 (.bin .geq (T 31) (T 32)) 28 true, o 34 (.pick (T 28) (T 33) (B false))]),
                (.cond (T 34)
                  (.reg [o 35 (.mov (T 5)), o 36 (.bin .add (T 35) (I 1)), o 5 (.mov (T 36))])
                  .skip)])),
            (.reg [o 21 (.mov (T 6)), o 22 (.bin .add (T 21) (I 1)), o 6 (.mov (T 22))])])))]),
    (.reg [o 37 (.mov (T 5)), o 4 (.mov (T 37))]),
    .ret])
theorem ok20 : cfn Try.prog Try.f20 2 = some (s20, [.tmp 4]) := by kernel_rfl

/-! 21 laws.toStmt -/
def s21 : SCode :=
  (sqs [
    (.reg [o 1 (.box 6 (T 0)), o 2 (.zero [(.int .i64 0), (.int .i64 0), (.int .i64 0), (.int .i64 0), (.int .i64 0), (.int .i64 0)])]),
    (.reg [o 3 (.zero [(.int .i64 0), (.int .i64 0), (.int .i64 0), (.int .i64 0), (.int .i64 0), (.int .i64 0)])]),
    (.reg [o 4 (.fieldAddr 0 (T 1)), o 5 (.load false 1 (T 4)), o 6 (.fieldAddr 0 (T 3)), on_ (.store 1 (T 6) (T 5))]),
    (.reg [o 7 (.fieldAddr 1 (T 1)), o 8 (.load false 1 (T 7)), o 9 (.fieldAddr 1 (T 3)), on_ (.store 1 (T 9) (T 8))]),
    (.reg [o 10 (.fieldAddr 2 (T 1)), o 11 (.load false 1 (T 10)), o 12 (.fieldAddr 2 (T 3)), on_ (.store 1 (T 12) (T 11))]),
    (.reg [o 13 (.fieldAddr 3 (T 1)), o 14 (.load true 3 (T 13)), o 15 (.call 40 [(T 14)]), o 16 (.fieldAddr 3 (T 3)), on_ (.store 3 (T 16) (T 15))]),
    (.reg [o 17 (.load true 6 (T 3)), on_ (.store 6 (T 2) (T 17))]),
    .ret])
theorem ok21 : cfn Try.prog Try.f21 1 = some (s21, [.cell 2 true 6]) := by kernel_rfl

/-! 22 impl.BlockOk -/
def s22 : SCode :=
  (sqs [
    (.reg [o 2 (.mov (B false))]),
    (.reg [o 3 (.mov (I 0))]),
    (sqs [
      (.reg [o 6 (.mov (T 0)), o 7 (.len (T 6)), o 8 (.mov (I 0))]),
      (.block 0
        (.loop
          (sqs [
            (.reg [o 9 (.bin .lss (T 8) (T 7))]),
            (.cond (T 9)
              .skip
              (.exit 0)),
            (.block 1
              (sqs [
                (.reg [o 10 (.idxAddr 6 (T 6) (T 8)), o 11 (.load true 6 (T 10)), o 5 (.hole 6), o 5 (.birth 6 (T 5) (T 11))]),
                (sqs [
                  (.reg [o 12 (.load true 6 (T 5)), o 13 (.call 41 [(T 12)]), o 14 (.not (T 13))]),
                  (.cond (T 14)
                    (sqs [
                      (.reg [o 2 (.mov (B false))]),
                      .ret])
                    .skip)]),
                (sqs [
                  (.reg [o 15 (.fieldAddr 0 (T 5)), o 16 (.load false 1 (T 15)), o 17 (.call 42 [(T 16)])]),
                  (.cond (T 17)
                    (.reg [o 18 (.mov (T 3)), o 19 (.bin .add (T 18) (I 1)), o 3 (.mov (T 19))])
                    .skip)]),
                (sqs [
                  (.reg [o 20 (.fieldAddr 0 (T 5)), o 21 (.load false 1 (T 20)), o 22 (.bin .eql (T 21) (I 6))]),
                  (.cond (T 22)
                    (.reg [o 23 (.mov (T 3)), o 24 (.bin .sub (T 23) (I 1)), o 3 (.mov (T 24))])
                    .skip)]),
                (.reg [o 25 (.mov (T 3)), o 26 (.bin .lss (T 25) (I 0)), o 27 (.mov (T 26)), og 28 (.mov (T 3)) 27 false, og 29 (.bin .gtr (T 28) (I 3)) 27 false, o 30 (.pick (T 27) (B true) (T 29))]),
                (.cond (T 30)
                  (sqs [
                    (.reg [o 2 (.mov (B false))]),
                    .ret])
                  .skip)])),
            (.reg [o 31 (.bin .add (T 8) (I 1)), o 8 (.mov (T 31))])])))]),
    (.reg [o 32 (.mov (T 3)), o 33 (.bin .eql (T 32) (I 0)), o 34 (.mov (T 33)), og 35 (.mov (T 0)) 34 true, og 36 (.len (T 35)) 34 true, og 37 (.bin .leq (T 36) (I 24)) 34 true, o 38 (.pick (T 34) (T 37) (B false)), o 2 (.mov (T 38))]),
    .ret])
theorem ok22 : cfn Try.prog Try.f22 1 = some (s22, [.tmp 2]) := by kernel_rfl

/-! 23 impl.DepthOf -/
def s23 : SCode :=
  (sqs [
    (.reg [o 4 (.mov (I 0))]),
    (sqs [
      (.reg [o 8 (.mov (T 0)), o 9 (.call 22 [(T 8)]), o 10 (.not (T 9)), o 11 (.mov (T 10)), og 12 (.mov (T 1)) 11 false, og 13 (.mov (T 0)) 11 false, og 14 (.len (T 13)) 11 false, og 15 (.bin .sub (T 14) (I 1)) 11 false, og 16 (.call 34 [(T 12), (I 0), (T 15)]) 11 false, og 17 (.not (T 16)) 11 false, o 18 (.pick (T 11) (B true) (T 17))]),
      (.cond (T 18)
        (sqs [
          (.reg [o 4 (.mov (I (-1)))]),
          .ret])
        .skip)]),
    (.reg [o 5 (.mov (I 0))]),
    (sqs [
      (.reg [o 19 (.mov (T 0)), o 20 (.mov (T 1)), o 21 (.slice 6 (T 19) none (some (T 20))), o 22 (.len (T 21)), o 23 (.mov (I 0))]),
      (.block 0
        (.loop
          (sqs [
            (.reg [o 24 (.bin .lss (T 23) (T 22))]),
            (.cond (T 24)
              .skip
              (.exit 0)),
            (.block 1
              (sqs [
                (.reg [o 25 (.idxAddr 6 (T 21) (T 23)), o 26 (.load true 6 (T 25)), o 7 (.hole 6), o 7 (.birth 6 (T 7) (T 26))]),
                (sqs [
                  (.reg [o 27 (.fieldAddr 0 (T 7)), o 28 (.load false 1 (T 27)), o 29 (.call 42 [(T 28)])]),
                  (.cond (T 29)
                    (.reg [o 30 (.mov (T 5)), o 31 (.bin .add (T 30) (I 1)), o 5 (.mov (T 31))])
                    .skip)]),
                (.reg [o 32 (.fieldAddr 0 (T 7)), o 33 (.load false 1 (T 32)), o 34 (.bin .eql (T 33) (I 6))]),
                (.cond (T 34)
                  (.reg [o 35 (.mov (T 5)), o 36 (.bin .sub (T 35) (I 1)), o 5 (.mov (T 36))])
                  .skip)])),
            (.reg [o 37 (.bin .add (T 23) (I 1)), o 23 (.mov (T 37))])])))]),
    (.reg [o 38 (.mov (T 5)), o 4 (.mov (T 38))]),
    .ret])
theorem ok23 : cfn Try.prog Try.f23 2 = some (s23, [.tmp 4]) := by kernel_rfl

/-! 24 laws.eqStmt -/
def s24 : SCode :=
  (sqs [
    (.reg [o 2 (.box 6 (T 0)), o 3 (.box 6 (T 1)), o 4 (.mov (B false))]),
    (sqs [
      (.reg [o 5 (.fieldAddr 0 (T 2)), o 6 (.load false 1 (T 5)), o 7 (.fieldAddr 0 (T 3)), o 8 (.load false 1 (T 7)), o 9 (.bin .neq (T 6) (T 8))]),
      (.cond (T 9)
        (sqs [
          (.reg [o 4 (.mov (B false))]),
          .ret])
        .skip)]),
    (sqs [
      (.reg [o 10 (.fieldAddr 1 (T 2)), o 11 (.load false 1 (T 10)), o 12 (.fieldAddr 1 (T 3)), o 13 (.load false 1 (T 12)), o 14 (.bin .neq (T 11) (T 13))]),
      (.cond (T 14)
        (sqs [
          (.reg [o 4 (.mov (B false))]),
          .ret])
        .skip)]),
    (sqs [
      (.reg [o 15 (.fieldAddr 2 (T 2)), o 16 (.load false 1 (T 15)), o 17 (.fieldAddr 2 (T 3)), o 18 (.load false 1 (T 17)), o 19 (.bin .neq (T 16) (T 18))]),
      (.cond (T 19)
        (sqs [
          (.reg [o 4 (.mov (B false))]),
          .ret])
        .skip)]),
    (sqs [
      (.reg [o 20 (.fieldAddr 3 (T 2)), o 21 (.load true 3 (T 20)), o 22 (.fieldAddr 3 (T 3)), o 23 (.load true 3 (T 22)), o 24 (.call 43 [(T 21), (T 23)]), o 25 (.not (T 24))]),
      (.cond (T 25)
        (sqs [
          (.reg [o 4 (.mov (B false))]),
          .ret])
        .skip)]),
    (.reg [o 4 (.mov (B true))]),
    .ret])
theorem ok24 : cfn Try.prog Try.f24 2 = some (s24, [.tmp 4]) := by kernel_rfl

/-! 25 laws.szTaskS -/
def s25 : SCode :=
  (sqs [
    (.reg [o 4 (.mov (I 0))]),
    (.reg [o 6 (.mov (T 1)), o 7 (.mov (T 0)), o 8 (.len (T 7)), o 9 (.bin .sub (T 6) (T 8)), o 1 (.mov (T 9))]),
    (sqs [
      (.reg [o 10 (.mov (T 1)), o 11 (.bin .lss (T 10) (I 0))]),
      (.cond (T 11)
        (sqs [
          (.reg [o 4 (.mov (I (-1)))]),
          .ret])
        .skip)]),
    (sqs [
      (.reg [o 5 (.mov (I 0))]),
      (.block 0
        (.loop
          (sqs [
            (sqs [
              (.reg [o 12 (.mov (T 5)), o 13 (.mov (T 0)), o 14 (.len (T 13)), o 15 (.bin .lss (T 12) (T 14))]),
              (.cond (T 15)
                .skip
                (.exit 0))]),
            (.block 1
              (sqs [
                (.reg [o 18 (.mov (T 0)), o 19 (.mov (T 5)), o 20 (.idxAddr 4 (T 18) (T 19)), o 21 (.load true 4 (T 20)), o 22 (.mov (T 1)), o 23 (.call 44 [(T 21), (T 22)]), o 1 (.mov (T 23))]),
                (.reg [o 24 (.mov (T 1)), o 25 (.bin .lss (T 24) (I 0))]),
                (.cond (T 25)
                  (sqs [
                    (.reg [o 4 (.mov (I (-1)))]),
                    .ret])
                  .skip)])),
            (.reg [o 16 (.mov (T 5)), o 17 (.bin .add (T 16) (I 1)), o 5 (.mov (T 17))])])))]),
    (.reg [o 26 (.mov (T 1)), o 4 (.mov (T 26))]),
    .ret])
theorem ok25 : cfn Try.prog Try.f25 2 = some (s25, [.tmp 4]) := by kernel_rfl

/-! 26 spec.ProgramOk -/
def s26 : SCode :=
  (sqs [
    (.reg [o 1 (.box 1 (T 0)), o 2 (.mov (B false))]),
    (sqs [
      (.reg [o 3 (.mov (I 0))]),
      (.block 0
        (.loop
          (sqs [
            (sqs [
              (.reg [o 4 (.mov (T 3)), o 5 (.fieldAddr 0 (T 1)), o 6 (.load false 1 (T 5)), o 7 (.len (T 6)), o 8 (.bin .lss (T 4) (T 7))]),
              (.cond (T 8)
                .skip
                (.exit 0))]),
            (.block 1
              (sqs [
                (.reg [o 11 (.fieldAddr 0 (T 1)), o 12 (.load false 1 (T 11)), o 13 (.mov (T 3)), o 14 (.idxAddr 4 (T 12) (T 13)), o 15 (.fieldAddr 0 (T 14)), o 16 (.load false 1 (T 15)), o 17 (.call 19 [(T 16)]), o 18 (.not (T 17)), o 19 (.mov (T 18)), og 20 (.fieldAddr 0 (T 1)) 19 false, og 21 (.load false 1 (T 20)) 19 false, og 22 (.mov (T 3)) 19 false, og 23 (.idxAddr 4 (T 21) (T 22)) 19 false, og 24 (.fieldAddr 1 (T 23)) 19 false, og 25 (.load true 3 (T 24)) 19 false, og 26 (.call 45 [(T 25)]) 19 false, og 27 (.not (T 26)) 19 false, o 28 (.pick (T 19) (B true) (T 27))]),
                (.cond (T 28)
                  (sqs [
                    (.reg [o 2 (.mov (B false))]),
                    .ret])
                  .skip)])),
            (.reg [o 9 (.mov (T 3)), o 10 (.bin .add (T 9) (I 1)), o 3 (.mov (T 10))])])))]),
    (.reg [o 29 (.fieldAddr 0 (T 1)), o 30 (.load false 1 (T 29)), o 31 (.len (T 30)), o 32 (.call 27 [(T 31), (I 1), (I 6)]), o 2 (.mov (T 32))]),
    .ret])
theorem ok26 : cfn Try.prog Try.f26 1 = some (s26, [.tmp 2]) := by kernel_rfl

/-! 27 spec.l01In -/
def s27 : SCode :=
  (sqs [
    (.reg [o 6 (.mov (B false))]),
    (.reg [o 7 (.mov (T 0)), o 8 (.mov (T 1)), o 9 (.bin .geq (T 7) (T 8)), o 10 (.mov (T 9)), og 11 (.mov (T 0)) 10 true, og 12 (.mov (T 2)) 10 true, og 13 (.bin .leq (T 11) (T 12)) 10 true, o 14 (.pick (T 10) (T 13) (B false)), o 6 (.mov (T 14))]),
    .ret])
theorem ok27 : cfn Try.prog Try.f27 3 = some (s27, [.tmp 6]) := by kernel_rfl

/-! 28 spec.l03Eval -/
def s28 : SCode :=
  (sqs [
    (.reg [o 3 (.box 3 (T 1)), o 4 (.mov (I 0))]),
    (.reg [o 7 (.mov (T 0)), o 8 (.fieldAddr 1 (T 3)), o 9 (.load false 1 (T 8)), o 10 (.call 46 [(T 7), (T 9)]), o 5 (.mov (T 10))]),
    (.reg [o 11 (.mov (T 0)), o 12 (.fieldAddr 2 (T 3)), o 13 (.load false 1 (T 12)), o 14 (.call 46 [(T 11), (T 13)]), o 6 (.mov (T 14))]),
    (sqs [
      (.reg [o 15 (.fieldAddr 0 (T 3)), o 16 (.load false 1 (T 15))]),
      (.block 0
        (sqs [
          (.reg [o 18 (.bin .eql (T 16) (I 1)), o 17 (.mov (T 18))]),
          (.cond (T 17)
            (sqs [
              (.reg [o 19 (.mov (T 5)), o 20 (.mov (T 6)), o 21 (.call 47 [(T 19), (T 20)]), o 4 (.mov (T 21))]),
              .ret])
            (sqs [
              (.reg [o 23 (.bin .eql (T 16) (I 2)), o 22 (.mov (T 23))]),
              (.cond (T 22)
                (sqs [
                  (.reg [o 24 (.mov (T 5)), o 25 (.mov (T 6)), o 26 (.call 48 [(T 24), (T 25)]), o 4 (.mov (T 26))]),
                  .ret])
                (sqs [
                  (.reg [o 28 (.bin .eql (T 16) (I 3)), o 27 (.mov (T 28))]),
                  (.cond (T 27)
                    (sqs [
                      (.reg [o 29 (.mov (T 5)), o 30 (.mov (T 6)), o 31 (.call 49 [(T 29), (T 30)]), o 4 (.mov (T 31))]),
                      .ret])
                    (sqs [
                      (.reg [o 33 (.bin .eql (T 16) (I 4)), o 32 (.mov (T 33))]),
                      (.cond (T 32)
                        (sqs [
                          (.reg [o 34 (.mov (T 5)), o 35 (.mov (T 6)), o 36 (.min (T 34) (T 35)), o 4 (.mov (T 36))]),
                          .ret])
                        (sqs [
                          (.reg [o 38 (.bin .eql (T 16) (I 5)), o 37 (.mov (T 38))]),
                          (.cond (T 37)
                            (sqs [
                              (.reg [o 39 (.mov (T 5)), o 40 (.mov (T 6)), o 41 (.max (T 39) (T 40)), o 4 (.mov (T 41))]),
                              .ret])
                            (sqs [
                              (.reg [o 43 (.bin .eql (T 16) (I 6)), o 42 (.mov (T 43))]),
                              (.cond (T 42)
                                (sqs [
                                  (.reg [o 44 (.mov (T 5)), o 45 (.mov (T 6)), o 46 (.bin .lss (T 44) (T 45)), o 47 (.call 50 [(T 46)]), o 4 (.mov (T 47))]),
                                  .ret])
                                .skip)]))]))]))]))]))]))]),
    (.reg [o 48 (.mov (T 5)), o 49 (.mov (T 6)), o 50 (.bin .eql (T 48) (T 49)), o 51 (.call 50 [(T 50)]), o 4 (.mov (T 51))]),
    .ret])
theorem ok28 : cfn Try.prog Try.f28 2 = some (s28, [.tmp 4]) := by kernel_rfl

/-! 29 laws.toTaskS -/
def s29 : SCode :=
  (sqs [
    (.reg [o 2 (.mov N)]),
    (.reg [o 5 (.mov (T 0)), o 6 (.len (T 5)), o 7 (.make 4 48 [.nils, (.int .i64 0), (.int .i64 0), (.int .i64 0)] (T 6)), o 3 (.mov (T 7))]),
    (sqs [
      (.reg [o 4 (.mov (I 0))]),
      (.block 0
        (.loop
          (sqs [
            (sqs [
              (.reg [o 8 (.mov (T 4)), o 9 (.mov (T 0)), o 10 (.len (T 9)), o 11 (.bin .lss (T 8) (T 10))]),
              (.cond (T 11)
                .skip
                (.exit 0))]),
            (.block 1
              (.reg [o 14 (.mov (T 3)), o 15 (.mov (T 4)), o 16 (.mov (T 0)), o 17 (.mov (T 4)), o 18 (.idxAddr 4 (T 16) (T 17)), o 19 (.load true 4 (T 18)), o 20 (.call 51 [(T 19)]), o 21 (.idxAddr 4 (T 14) (T 15)), on_ (.store 4 (T 21) (T 20))])),
            (.reg [o 12 (.mov (T 4)), o 13 (.bin .add (T 12) (I 1)), o 4 (.mov (T 13))])])))]),
    (.reg [o 22 (.mov (T 3)), o 2 (.mov (T 22))]),
    .ret])
theorem ok29 : cfn Try.prog Try.f29 1 = some (s29, [.tmp 2]) := by kernel_rfl

/-! 30 impl.ProgramOk -/
def s30 : SCode :=
  (sqs [
    (.reg [o 1 (.box 1 (T 0)), o 2 (.mov (B false))]),
    (.reg [o 3 (.fieldAddr 0 (T 1)), o 4 (.load false 1 (T 3)), o 5 (.len (T 4)), o 6 (.call 34 [(T 5), (I 1), (I 6)]), o 7 (.mov (T 6)), og 8 (.fieldAddr 0 (T 1)) 7 true, og 9 (.load false 1 (T 8)) 7 true, og 10 (.call 31 [(T 9), (.val (.fn 52 []))]) 7 true, og 11 (.not (T 10)) 7 true, o 12 (.pick (T 7) (T 11) (B false)), o 2 (.mov (T 12))]),
    .ret])
theorem ok30 : cfn Try.prog Try.f30 1 = some (s30, [.tmp 2]) := by kernel_rfl

/-! 31 slices.ContainsFunc[[]impl.Task,impl.Task] -/
def s31 : SCode :=
  (sqs [
    (.reg [o 4 (.mov (B false))]),
    (.reg [o 5 (.mov (T 0)), o 6 (.mov (T 1)), o 7 (.call 54 [(T 5), (T 6)]), o 8 (.bin .geq (T 7) (I 0)), o 4 (.mov (T 8))]),
    .ret])
theorem ok31 : cfn Try.prog Try.f31 2 = some (s31, [.tmp 4]) := by kernel_rfl

/-! 32 impl.IsRigid$1 -/
def s32 : SCode :=
  (sqs [
    (.reg [o 3 (.box 4 (T 0)), o 4 (.mov (B false))]),
    (.regD [o 5 (.fieldAddr 1 (T 3)), ⟨some 6, (.load true 3 (T 5)), none, 1, []⟩, o 7 (.call 33 [(T 6)]), o 8 (.len (T 7)), o 9 (.bin .gtr (T 8) (I 0)), o 10 (.mov (T 9)), ⟨some 11, (.load false 1 (T 1)), some (10, false), 6, []⟩, og 12 (.fieldAddr 1 (T 3)) 10 false, ⟨some 13, (.load true 3 (T 12)), some (10, false), 8, []⟩, og 15 (.fieldAddr 0 (T 2)) 10 false, ⟨some 16, (.load false 1 (T 15)), some (10, false), 11, []⟩, og 17 (.len (T 16)) 10 false, og 18 (.bin .sub (T 17) (I 1)) 10 false, ⟨some 14, (.call 35 [(T 11), (T 13)]), some (10, false), 0, [11]⟩, og 19 (.call 34 [(T 14), (I 0), (T 18)]) 10 false, og 20 (.not (T 19)) 10 false, o 21 (.pick (T 10) (B true) (T 20)), o 4 (.mov (T 21))]),
    .ret])
theorem ok32 : cfn Try.prog Try.f32 3 = some (s32, [.tmp 4]) := by kernel_rfl

/-! 33 impl.ReadsOf -/
def s33 : SCode :=
  (sqs [
    (.reg [o 1 (.box 3 (T 0)), o 2 (.mov N)]),
    (sqs [
      (.reg [o 6 (.load true 3 (T 1)), o 7 (.call 55 [(T 6)]), o 8 (.not (T 7))]),
      (.cond (T 8)
        (sqs [
          (.reg [o 2 (.mov N)]),
          .ret])
        .skip)]),
    (.reg [o 9 (.lit 0 1 [(.int .i64 0)] []), o 3 (.mov (T 9))]),
    (sqs [
      (.reg [o 10 (.fieldAddr 1 (T 1)), o 11 (.load false 1 (T 10)), o 12 (.fieldAddr 2 (T 1)), o 13 (.load false 1 (T 12)), o 14 (.lit 2 1 [(.int .i64 0)] [(0, (T 11)), (1, (T 13))]), o 15 (.len (T 14)), o 16 (.mov (I 0))]),
      (.block 0
        (.loop
          (sqs [
            (.reg [o 17 (.bin .lss (T 16) (T 15))]),
            (.cond (T 17)
              .skip
              (.exit 0)),
            (.block 1
              (sqs [
                (.reg [o 18 (.idxAddr 1 (T 14) (T 16)), o 19 (.load false 1 (T 18)), o 5 (.mov (T 19))]),
                (.reg [o 20 (.mov (T 5)), o 21 (.bin .lss (T 20) (I 0))]),
                (.cond (T 21)
                  (.reg [o 22 (.mov (T 3)), o 23 (.mov (T 5)), o 24 (.bin .sub (I (-1)) (T 23)), o 25 (.lit 1 1 [(.int .i64 0)] [(0, (T 24))]), o 26 (.append 1 8 (T 22) (T 25)), o 3 (.mov (T 26))])
                  .skip)])),
            (.reg [o 27 (.bin .add (T 16) (I 1)), o 16 (.mov (T 27))])])))]),
    (.reg [o 28 (.mov (T 3)), o 29 (.call 56 [(T 28)])]),
    (.reg [o 30 (.mov (T 3)), o 31 (.call 57 [(T 30)]), o 2 (.mov (T 31))]),
    .ret])
theorem ok33 : cfn Try.prog Try.f33 1 = some (s33, [.tmp 2]) := by kernel_rfl

/-! 34 impl.within -/
def s34 : SCode :=
  (sqs [
    (.reg [o 6 (.mov (B false))]),
    (.reg [o 7 (.mov (T 0)), o 8 (.mov (T 1)), o 9 (.bin .geq (T 7) (T 8)), o 10 (.mov (T 9)), og 11 (.mov (T 0)) 10 true, og 12 (.mov (T 2)) 10 true, og 13 (.bin .leq (T 11) (T 12)) 10 true, o 14 (.pick (T 10) (T 13) (B false)), o 6 (.mov (T 14))]),
    .ret])
theorem ok34 : cfn Try.prog Try.f34 3 = some (s34, [.tmp 6]) := by kernel_rfl

/-! 35 impl.EvalExpr -/
def s35 : SCode :=
  (sqs [
    (.reg [o 3 (.box 3 (T 1)), o 4 (.mov (I 0))]),
    (sqs [
      (.reg [o 7 (.mov (T 0)), o 8 (.call 58 [(T 7)]), o 9 (.not (T 8)), o 10 (.mov (T 9)), og 11 (.load true 3 (T 3)) 10 false, og 12 (.call 55 [(T 11)]) 10 false, og 13 (.not (T 12)) 10 false, o 14 (.pick (T 10) (B true) (T 13))]),
      (.cond (T 14)
        (sqs [
          (.reg [o 4 (.mov (I 0))]),
          .ret])
        .skip)]),
    (.regD [o 15 (.mov (T 0)), o 16 (.fieldAddr 1 (T 3)), ⟨some 17, (.load false 1 (T 16)), none, 2, []⟩, o 19 (.mov (T 0)), o 20 (.fieldAddr 2 (T 3)), ⟨some 21, (.load false 1 (T 20)), none, 6, []⟩, ⟨some 18, (.call 59 [(T 15), (T 17)]), none, 0, [6]⟩, o 22 (.call 59 [(T 19), (T 21)]), o 5 (.mov (T 18)), o 6 (.mov (T 22))]),
    (sqs [
      (.reg [o 23 (.fieldAddr 0 (T 3)), o 24 (.load false 1 (T 23))]),
      (.block 0
        (sqs [
          (.reg [o 26 (.bin .eql (T 24) (I 1)), o 25 (.mov (T 26))]),
          (.cond (T 25)
            (sqs [
              (.reg [o 27 (.mov (T 5)), o 28 (.mov (T 6)), o 29 (.call 60 [(T 27), (T 28)]), o 4 (.mov (T 29))]),
              .ret])
            (sqs [
              (.reg [o 31 (.bin .eql (T 24) (I 2)), o 30 (.mov (T 31))]),
              (.cond (T 30)
                (sqs [
                  (.reg [o 32 (.mov (T 5)), o 33 (.mov (T 6)), o 34 (.call 61 [(T 32), (T 33)]), o 4 (.mov (T 34))]),
                  .ret])
                (sqs [
                  (.reg [o 36 (.bin .eql (T 24) (I 3)), o 35 (.mov (T 36))]),
                  (.cond (T 35)
                    (sqs [
                      (.reg [o 37 (.mov (T 5)), o 38 (.mov (T 6)), o 39 (.call 62 [(T 37), (T 38)]), o 4 (.mov (T 39))]),
                      .ret])
                    (sqs [
                      (.reg [o 41 (.bin .eql (T 24) (I 4)), o 40 (.mov (T 41))]),
                      (.cond (T 40)
                        (sqs [
                          (.reg [o 42 (.mov (T 5)), o 43 (.mov (T 6)), o 44 (.min (T 42) (T 43)), o 4 (.mov (T 44))]),
                          .ret])
                        (sqs [
                          (.reg [o 46 (.bin .eql (T 24) (I 5)), o 45 (.mov (T 46))]),
                          (.cond (T 45)
                            (sqs [
                              (.reg [o 47 (.mov (T 5)), o 48 (.mov (T 6)), o 49 (.max (T 47) (T 48)), o 4 (.mov (T 49))]),
                              .ret])
                            (sqs [
                              (.reg [o 51 (.bin .eql (T 24) (I 6)), o 50 (.mov (T 51))]),
                              (.cond (T 50)
                                (sqs [
                                  (.reg [o 52 (.mov (T 5)), o 53 (.mov (T 6)), o 54 (.bin .lss (T 52) (T 53)), o 55 (.call 63 [(T 54)]), o 4 (.mov (T 55))]),
                                  .ret])
                                .skip)]))]))]))]))]))]))]),
    (.reg [o 56 (.mov (T 5)), o 57 (.mov (T 6)), o 58 (.bin .eql (T 56) (T 57)), o 59 (.call 63 [(T 58)]), o 4 (.mov (T 59))]),
    .ret])
theorem ok35 : cfn Try.prog Try.f35 2 = some (s35, [.tmp 4]) := by kernel_rfl

/-! 36 laws.eqTaskS -/
def s36 : SCode :=
  (sqs [
    (.reg [o 4 (.mov (B false))]),
    (sqs [
      (.reg [o 6 (.mov (T 0)), o 7 (.len (T 6)), o 8 (.mov (T 1)), o 9 (.len (T 8)), o 10 (.bin .neq (T 7) (T 9))]),
      (.cond (T 10)
        (sqs [
          (.reg [o 4 (.mov (B false))]),
          .ret])
        .skip)]),
    (sqs [
      (.reg [o 5 (.mov (I 0))]),
      (.block 0
        (.loop
          (sqs [
            (sqs [
              (.reg [o 11 (.mov (T 5)), o 12 (.mov (T 0)), o 13 (.len (T 12)), o 14 (.bin .lss (T 11) (T 13))]),
              (.cond (T 14)
                .skip
                (.exit 0))]),
            (.block 1
              (sqs [
                (.regD [o 17 (.mov (T 0)), o 18 (.mov (T 5)), o 19 (.idxAddr 4 (T 17) (T 18)), ⟨some 20, (.load true 4 (T 19)), none, 3, []⟩, o 21 (.mov (T 1)), o 22 (.mov (T 5)), o 23 (.idxAddr 4 (T 21) (T 22)), ⟨some 24, (.load true 4 (T 23)), none, 7, []⟩, o 25 (.call 64 [(T 20), (T 24)]), o 26 (.not (T 25))]),
                (.cond (T 26)
                  (sqs [
                    (.reg [o 4 (.mov (B false))]),
                    .ret])
                  .skip)])),
            (.reg [o 15 (.mov (T 5)), o 16 (.bin .add (T 15) (I 1)), o 5 (.mov (T 16))])])))]),
    (.reg [o 4 (.mov (B true))]),
    .ret])
theorem ok36 : cfn Try.prog Try.f36 2 = some (s36, [.tmp 4]) := by kernel_rfl

/-! 37 spec.StmtOk -/
def s37 : SCode :=
  (sqs [
    (.reg [o 1 (.box 6 (T 0)), o 2 (.mov (B false))]),
    (sqs [
      (.regD [o 3 (.load true 6 (T 1)), ⟨some 4, (.load true 6 (T 1)), none, 1, []⟩, ⟨some 5, (.call 65 [(T 4)]), none, 0, [0]⟩, o 6 (.eqs 48 true (T 3) (T 5))]),
      (.cond (T 6)
        (sqs [
          (.reg [o 2 (.mov (B false))]),
          .ret])
        .skip)]),
    (sqs [
      (.reg [o 7 (.fieldAddr 0 (T 1)), o 8 (.load false 1 (T 7))]),
      (.block 0
        (sqs [
          (.reg [o 10 (.bin .eql (T 8) (I 1)), o 9 (.mov (T 10))]),
          (.cond (T 9)
            (sqs [
              (.reg [o 11 (.fieldAddr 1 (T 1)), o 12 (.load false 1 (T 11)), o 13 (.call 27 [(T 12), (I 0), (I 7)]), o 14 (.mov (T 13)), og 15 (.fieldAddr 3 (T 1)) 14 true, og 16 (.load true 3 (T 15)) 14 true, og 17 (.call 45 [(T 16)]) 14 true, o 18 (.pick (T 14) (T 17) (B false)), o 2 (.mov (T 18))]),
              .ret])
            (sqs [
              (.reg [o 20 (.bin .eql (T 8) (I 2)), o 19 (.mov (T 20))]),
              (.cond (T 19)
                (sqs [
                  (.reg [o 21 (.fieldAddr 1 (T 1)), o 22 (.load false 1 (T 21)), o 23 (.call 27 [(T 22), (I 0), (I 7)]), o 24 (.mov (T 23)), og 25 (.fieldAddr 2 (T 1)) 24 true, og 26 (.load false 1 (T 25)) 24 true, og 27 (.call 27 [(T 26), (I 0), (I 3)]) 24 true, o 28 (.pick (T 24) (T 27) (B false)), o 2 (.mov (T 28))]),
                  .ret])
                (sqs [
                  (sqs [
                    (.reg [o 30 (.bin .eql (T 8) (I 3)), o 29 (.mov (T 30))]),
                    (.cond (T 29)
                      .skip
                      (.reg [o 31 (.bin .eql (T 8) (I 4)), o 29 (.mov (T 31))]))]),
                  (.cond (T 29)
                    (sqs [
                      (.reg [o 32 (.fieldAddr 3 (T 1)), o 33 (.load true 3 (T 32)), o 34 (.call 45 [(T 33)]), o 2 (.mov (T 34))]),
                      .ret])
                    (sqs [
                      (.reg [o 36 (.bin .eql (T 8) (I 5)), o 35 (.mov (T 36))]),
                      (.cond (T 35)
                        (sqs [
                          (.reg [o 37 (.fieldAddr 2 (T 1)), o 38 (.load false 1 (T 37)), o 39 (.call 27 [(T 38), (I 1), (I 5)]), o 2 (.mov (T 39))]),
                          .ret])
                        .skip)]))]))]))]))]),
    (.reg [o 40 (.fieldAddr 0 (T 1)), o 41 (.load false 1 (T 40)), o 42 (.bin .eql (T 41) (I 6)), o 2 (.mov (T 42))]),
    .ret])
theorem ok37 : cfn Try.prog Try.f37 1 = some (s37, [.tmp 2]) := by kernel_rfl

/-! 38 spec.l05Opens -/
def s38 : SCode :=
  (sqs [
    (.reg [o 1 (.box 6 (T 0)), o 2 (.mov (B false))]),
    (.reg [o 3 (.fieldAddr 0 (T 1)), o 4 (.load false 1 (T 3)), o 5 (.bin .eql (T 4) (I 4)), o 6 (.mov (T 5)), og 7 (.fieldAddr 0 (T 1)) 6 false, og 8 (.load false 1 (T 7)) 6 false, og 9 (.bin .eql (T 8) (I 5)) 6 false, o 10 (.pick (T 6) (B true) (T 9)), o 2 (.mov (T 10))]),
    .ret])
theorem ok38 : cfn Try.prog Try.f38 1 = some (s38, [.tmp 2]) := by kernel_rfl

/-! 39 spec.l05End -/
def s39 : SCode :=
  (sqs [
    (.reg [o 4 (.mov (I 0))]),
    (.reg [o 5 (.mov (I 0))]),
    (sqs [
      (.reg [o 7 (.mov (T 1)), o 6 (.mov (T 7))]),
      (.block 0
        (.loop
          (sqs [
            (sqs [
              (.reg [o 8 (.mov (T 6)), o 9 (.mov (T 0)), o 10 (.len (T 9)), o 11 (.bin .lss (T 8) (T 10))]),
              (.cond (T 11)
                .skip
                (.exit 0))]),
            (.block 1
              (sqs [
                (sqs [
                  (.reg [o 14 (.mov (T 0)), o 15 (.mov (T 6)), o 16 (.idxAddr 6 (T 14) (T 15)), o 17 (.load true 6 (T 16)), o 18 (.call 38 [(T 17)])]),
                  (.cond (T 18)
                    (.reg [o 19 (.mov (T 5)), o 20 (.bin .add (T 19) (I 1)), o 5 (.mov (T 20))])
                    .skip)]),
                (.reg [o 21 (.mov (T 0)), o 22 (.mov (T 6)), o 23 (.idxAddr 6 (T 21) (T 22)), o 24 (.fieldAddr 0 (T 23)), o 25 (.load false 1 (T 24)), o 26 (.bin .eql (T 25) (I 6))]),
                (.cond (T 26)
                  (sqs [
                    (.reg [o 27 (.mov (T 5)), o 28 (.bin .sub (T 27) (I 1)), o 5 (.mov (T 28))]),
                    (.reg [o 29 (.mov (T 5)), o 30 (.bin .eql (T 29) (I 0))]),
                    (.cond (T 30)
                      (sqs [
                        (.reg [o 31 (.mov (T 6)), o 4 (.mov (T 31))]),
                        .ret])
                      .skip)])
                  .skip)])),
            (.reg [o 12 (.mov (T 6)), o 13 (.bin .add (T 12) (I 1)), o 6 (.mov (T 13))])])))]),
    (.reg [o 4 (.mov (I (-1)))]),
    .ret])
theorem ok39 : cfn Try.prog Try.f39 2 = some (s39, [.tmp 4]) := by kernel_rfl

/-! 40 laws.toExpr -/
def s40 : SCode :=
  (sqs [
    (.reg [o 1 (.box 3 (T 0)), o 2 (.zero [(.int .i64 0), (.int .i64 0), (.int .i64 0)])]),
    (.reg [o 3 (.zero [(.int .i64 0), (.int .i64 0), (.int .i64 0)])]),
    (.reg [o 4 (.fieldAddr 0 (T 1)), o 5 (.load false 1 (T 4)), o 6 (.fieldAddr 0 (T 3)), on_ (.store 1 (T 6) (T 5))]),
    (.reg [o 7 (.fieldAddr 1 (T 1)), o 8 (.load false 1 (T 7)), o 9 (.fieldAddr 1 (T 3)), on_ (.store 1 (T 9) (T 8))]),
    (.reg [o 10 (.fieldAddr 2 (T 1)), o 11 (.load false 1 (T 10)), o 12 (.fieldAddr 2 (T 3)), on_ (.store 1 (T 12) (T 11))]),
    (.reg [o 13 (.load true 3 (T 3)), on_ (.store 3 (T 2) (T 13))]),
    .ret])
theorem ok40 : cfn Try.prog Try.f40 1 = some (s40, [.cell 2 true 3]) := by kernel_rfl

/-! 41 impl.StmtOk -/
def s41 : SCode :=
  (sqs [
    (.reg [o 1 (.box 6 (T 0)), o 2 (.mov (B false))]),
    (sqs [
      (.reg [o 3 (.fieldAddr 0 (T 1)), o 4 (.load false 1 (T 3)), o 5 (.call 34 [(T 4), (I 1), (I 6)]), o 6 (.not (T 5)), o 7 (.mov (T 6)), og 8 (.fieldAddr 0 (T 1)) 7 false, og 9 (.load false 1 (T 8)) 7 false, og 10 (.call 66 [(T 9)]) 7 false, og 11 (.mov (T 10)) 7 false, og 12 (.fieldAddr 1 (T 1)) 11 true, og 13 (.load false 1 (T 12)) 11 true, og 14 (.call 67 [(T 13)]) 11 true, og 15 (.not (T 14)) 11 true, og 16 (.pick (T 11) (T 15) (B false)) 7 false, o 17 (.pick (T 7) (B true) (T 16)), o 18 (.mov (T 17)), og 19 (.fieldAddr 0 (T 1)) 18 false, og 20 (.load false 1 (T 19)) 18 false, og 21 (.call 66 [(T 20)]) 18 false, og 22 (.not (T 21)) 18 false, og 23 (.mov (T 22)) 18 false, og 24 (.fieldAddr 1 (T 1)) 23 true, og 25 (.load false 1 (T 24)) 23 true, og 26 (.bin .neq (T 25) (I 0)) 23 true, og 27 (.pick (T 23) (T 26) (B false)) 18 false, o 28 (.pick (T 18) (B true) (T 27))]),
      (.cond (T 28)
        (sqs [
          (.reg [o 2 (.mov (B false))]),
          .ret])
        .skip)]),
    (sqs [
      (.reg [o 29 (.fieldAddr 0 (T 1)), o 30 (.load false 1 (T 29)), o 31 (.call 68 [(T 30)]), o 32 (.mov (T 31)), og 33 (.fieldAddr 3 (T 1)) 32 true, og 34 (.load true 3 (T 33)) 32 true, og 35 (.call 55 [(T 34)]) 32 true, og 36 (.not (T 35)) 32 true, o 37 (.pick (T 32) (T 36) (B false)), o 38 (.mov (T 37)), og 39 (.fieldAddr 0 (T 1)) 38 false, og 40 (.load false 1 (T 39)) 38 false, og 41 (.call 68 [(T 40)]) 38 false, og 42 (.not (T 41)) 38 false, og 43 (.mov (T 42)) 38 false, og 44 (.fieldAddr 3 (T 1)) 43 true, og 45 (.load true 3 (T 44)) 43 true, og 46 (.build [(.int .i64 0), (.int .i64 0), (.int .i64 0)] []) 43 true, og 47 (.eqs 46 true (T 45) (T 46)) 43 true, og 48 (.pick (T 43) (T 47) (B false)) 38 false, o 49 (.pick (T 38) (B true) (T 48))]),
      (.cond (T 49)
        (sqs [
          (.reg [o 2 (.mov (B false))]),
          .ret])
        .skip)]),
    (sqs [
      (.reg [o 50 (.fieldAddr 0 (T 1)), o 51 (.load false 1 (T 50))]),
      (.block 0
        (sqs [
          (.reg [o 53 (.bin .eql (T 51) (I 2)), o 52 (.mov (T 53))]),
          (.cond (T 52)
            (sqs [
              (.reg [o 54 (.fieldAddr 2 (T 1)), o 55 (.load false 1 (T 54)), o 56 (.call 69 [(T 55)]), o 2 (.mov (T 56))]),
              .ret])
            (sqs [
              (.reg [o 58 (.bin .eql (T 51) (I 5)), o 57 (.mov (T 58))]),
              (.cond (T 57)
                (sqs [
                  (.reg [o 59 (.fieldAddr 2 (T 1)), o 60 (.load false 1 (T 59)), o 61 (.call 34 [(T 60), (I 1), (I 5)]), o 2 (.mov (T 61))]),
                  .ret])
                .skip)]))]))]),
    (.reg [o 62 (.fieldAddr 2 (T 1)), o 63 (.load false 1 (T 62)), o 64 (.bin .eql (T 63) (I 0)), o 2 (.mov (T 64))]),
    .ret])
theorem ok41 : cfn Try.prog Try.f41 1 = some (s41, [.tmp 2]) := by kernel_rfl

/-! 42 impl.isOpening -/
def s42 : SCode :=
  (sqs [
    (.reg [o 2 (.mov (B false))]),
    (.reg [o 3 (.mov (T 0)), o 4 (.bin .eql (T 3) (I 4)), o 5 (.mov (T 4)), og 6 (.mov (T 0)) 5 false, og 7 (.bin .eql (T 6) (I 5)) 5 false, o 8 (.pick (T 5) (B true) (T 7)), o 2 (.mov (T 8))]),
    .ret])
theorem ok42 : cfn Try.prog Try.f42 1 = some (s42, [.tmp 2]) := by kernel_rfl

/-! 43 laws.eqExpr -/
def s43 : SCode :=
  (sqs [
    (.reg [o 2 (.box 3 (T 0)), o 3 (.box 3 (T 1)), o 4 (.mov (B false))]),
    (sqs [
      (.reg [o 5 (.fieldAddr 0 (T 2)), o 6 (.load false 1 (T 5)), o 7 (.fieldAddr 0 (T 3)), o 8 (.load false 1 (T 7)), o 9 (.bin .neq (T 6) (T 8))]),
      (.cond (T 9)
        (sqs [
          (.reg [o 4 (.mov (B false))]),
          .ret])
        .skip)]),
    (sqs [
      (.reg [o 10 (.fieldAddr 1 (T 2)), o 11 (.load false 1 (T 10)), o 12 (.fieldAddr 1 (T 3)), o 13 (.load false 1 (T 12)), o 14 (.bin .neq (T 11) (T 13))]),
      (.cond (T 14)
        (sqs [
          (.reg [o 4 (.mov (B false))]),
          .ret])
        .skip)]),
    (sqs [
      (.reg [o 15 (.fieldAddr 2 (T 2)), o 16 (.load false 1 (T 15)), o 17 (.fieldAddr 2 (T 3)), o 18 (.load false 1 (T 17)), o 19 (.bin .neq (T 16) (T 18))]),
      (.cond (T 19)
        (sqs [
          (.reg [o 4 (.mov (B false))]),
          .ret])
        .skip)]),
    (.reg [o 4 (.mov (B true))]),
    .ret])
theorem ok43 : cfn Try.prog Try.f43 2 = some (s43, [.tmp 4]) := by kernel_rfl

/-! 44 laws.szTask -/
def s44 : SCode :=
  (sqs [
    (.reg [o 2 (.box 4 (T 0)), o 4 (.mov (I 0))]),
    (.reg [o 5 (.fieldAddr 0 (T 2)), o 6 (.load false 1 (T 5)), o 7 (.mov (T 1)), o 8 (.call 5 [(T 6), (T 7)]), o 1 (.mov (T 8))]),
    (sqs [
      (.reg [o 9 (.mov (T 1)), o 10 (.bin .lss (T 9) (I 0))]),
      (.cond (T 10)
        (sqs [
          (.reg [o 4 (.mov (I (-1)))]),
          .ret])
        .skip)]),
    (.reg [o 11 (.mov (T 1)), o 4 (.mov (T 11))]),
    .ret])
theorem ok44 : cfn Try.prog Try.f44 2 = some (s44, [.tmp 4]) := by kernel_rfl

/-! 45 spec.ExprOk -/
def s45 : SCode :=
  (sqs [
    (.reg [o 1 (.box 3 (T 0)), o 2 (.mov (B false))]),
    (.reg [o 3 (.fieldAddr 0 (T 1)), o 4 (.load false 1 (T 3)), o 5 (.call 27 [(T 4), (I 1), (I 7)]), o 6 (.mov (T 5)), og 7 (.fieldAddr 1 (T 1)) 6 true, og 8 (.load false 1 (T 7)) 6 true, og 9 (.call 70 [(T 8)]) 6 true, o 10 (.pick (T 6) (T 9) (B false)), o 11 (.mov (T 10)), og 12 (.fieldAddr 2 (T 1)) 11 true, og 13 (.load false 1 (T 12)) 11 true, og 14 (.call 70 [(T 13)]) 11 true, o 15 (.pick (T 11) (T 14) (B false)), o 2 (.mov (T 15))]),
    .ret])
theorem ok45 : cfn Try.prog Try.f45 1 = some (s45, [.tmp 2]) := by kernel_rfl

/-! 46 spec.l03Value -/
def s46 : SCode :=
  (sqs [
    (.reg [o 4 (.mov (I 0))]),
    (sqs [
      (.reg [o 5 (.mov (T 1)), o 6 (.bin .lss (T 5) (I 0))]),
      (.cond (T 6)
        (sqs [
          (.reg [o 7 (.mov (T 0)), o 8 (.mov (T 1)), o 9 (.bin .sub (I (-1)) (T 8)), o 10 (.idxAddr 1 (T 7) (T 9)), o 11 (.load false 1 (T 10)), o 4 (.mov (T 11))]),
          .ret])
        .skip)]),
    (.reg [o 12 (.mov (T 1)), o 4 (.mov (T 12))]),
    .ret])
theorem ok46 : cfn Try.prog Try.f46 2 = some (s46, [.tmp 4]) := by kernel_rfl

/-! 47 spec.AddValues -/
def s47 : SCode :=
  (sqs [
    (.reg [o 4 (.mov (I 0))]),
    (.reg [o 5 (.mov (T 0)), o 6 (.call 71 [(T 5)]), o 7 (.mov (T 1)), o 8 (.call 71 [(T 7)]), o 9 (.bin .add (T 6) (T 8)), o 10 (.call 71 [(T 9)]), o 4 (.mov (T 10))]),
    .ret])
theorem ok47 : cfn Try.prog Try.f47 2 = some (s47, [.tmp 4]) := by kernel_rfl

/-! 48 spec.SubValues -/
def s48 : SCode :=
  (sqs [
    (.reg [o 4 (.mov (I 0))]),
    (.reg [o 5 (.mov (T 0)), o 6 (.call 71 [(T 5)]), o 7 (.mov (T 1)), o 8 (.call 71 [(T 7)]), o 9 (.bin .sub (T 6) (T 8)), o 10 (.call 71 [(T 9)]), o 4 (.mov (T 10))]),
    .ret])
theorem ok48 : cfn Try.prog Try.f48 2 = some (s48, [.tmp 4]) := by kernel_rfl

/-! 49 spec.MulValues -/
def s49 : SCode :=
  (sqs [
    (.reg [o 4 (.mov (I 0))]),
    (.reg [o 5 (.mov (T 0)), o 6 (.call 71 [(T 5)]), o 7 (.mov (T 1)), o 8 (.call 71 [(T 7)]), o 9 (.bin .mul (T 6) (T 8)), o 10 (.call 71 [(T 9)]), o 4 (.mov (T 10))]),
    .ret])
theorem ok49 : cfn Try.prog Try.f49 2 = some (s49, [.tmp 4]) := by kernel_rfl

/-! 50 spec.l03Bit -/
def s50 : SCode :=
  (sqs [
    (.reg [o 2 (.mov (I 0))]),
    (sqs [
      (.reg [o 3 (.mov (T 0))]),
      (.cond (T 3)
        (sqs [
          (.reg [o 2 (.mov (I 1))]),
          .ret])
        .skip)]),
    (.reg [o 2 (.mov (I 0))]),
    .ret])
theorem ok50 : cfn Try.prog Try.f50 1 = some (s50, [.tmp 2]) := by kernel_rfl

/-! 51 laws.toTask -/
def s51 : SCode :=
  (sqs [
    (.reg [o 1 (.box 4 (T 0)), o 2 (.zero [.nils, (.int .i64 0), (.int .i64 0), (.int .i64 0)])]),
    (.reg [o 3 (.zero [.nils, (.int .i64 0), (.int .i64 0), (.int .i64 0)])]),
    (.reg [o 4 (.fieldAddr 0 (T 1)), o 5 (.load false 1 (T 4)), o 6 (.call 7 [(T 5)]), o 7 (.fieldAddr 0 (T 3)), on_ (.store 1 (T 7) (T 6))]),
    (.reg [o 8 (.fieldAddr 1 (T 1)), o 9 (.load true 3 (T 8)), o 10 (.call 40 [(T 9)]), o 11 (.fieldAddr 1 (T 3)), on_ (.store 3 (T 11) (T 10))]),
    (.reg [o 12 (.load true 4 (T 3)), on_ (.store 4 (T 2) (T 12))]),
    .ret])
theorem ok51 : cfn Try.prog Try.f51 1 = some (s51, [.cell 2 true 4]) := by kernel_rfl

/-! 52 impl.ProgramOk$1 -/
def s52 : SCode :=
  (sqs [
    (.reg [o 1 (.box 4 (T 0)), o 2 (.mov (B false))]),
    (.reg [o 3 (.load true 4 (T 1)), o 4 (.call 53 [(T 3)]), o 5 (.not (T 4)), o 2 (.mov (T 5))]),
    .ret])
theorem ok52 : cfn Try.prog Try.f52 1 = some (s52, [.tmp 2]) := by kernel_rfl

/-! 53 impl.taskOk -/
def s53 : SCode :=
  (sqs [
    (.reg [o 1 (.box 4 (T 0)), o 2 (.mov (B false))]),
    (.reg [o 3 (.fieldAddr 0 (T 1)), o 4 (.load false 1 (T 3)), o 5 (.call 22 [(T 4)]), o 6 (.mov (T 5)), og 7 (.fieldAddr 1 (T 1)) 6 true, og 8 (.load true 3 (T 7)) 6 true, og 9 (.call 55 [(T 8)]) 6 true, o 10 (.pick (T 6) (T 9) (B false)), o 2 (.mov (T 10))]),
    .ret])
theorem ok53 : cfn Try.prog Try.f53 1 = some (s53, [.tmp 2]) := by kernel_rfl

/-! 54 slices.IndexFunc[[]impl.Task,impl.Task] -/
def s54 : SCode :=
  (sqs [
    (.reg [o 4 (.mov (I 0))]),
    (sqs [
      (.reg [o 6 (.mov (T 0)), o 7 (.len (T 6)), o 8 (.mov (I 0))]),
      (.block 0
        (.loop
          (sqs [
            (.reg [o 9 (.bin .lss (T 8) (T 7))]),
            (.cond (T 9)
              .skip
              (.exit 0)),
            (.block 1
              (sqs [
                (.reg [o 10 (.mov (T 8)), o 5 (.mov (T 10))]),
                (.reg [o 11 (.mov (T 1)), o 12 (.mov (T 0)), o 13 (.mov (T 5)), o 14 (.idxAddr 4 (T 12) (T 13)), o 15 (.load true 4 (T 14)), o 16 (.callv (T 11) [(T 15)])]),
                (.cond (T 16)
                  (sqs [
                    (.reg [o 17 (.mov (T 5)), o 4 (.mov (T 17))]),
                    .ret])
                  .skip)])),
            (.reg [o 18 (.bin .add (T 8) (I 1)), o 8 (.mov (T 18))])])))]),
    (.reg [o 4 (.mov (I (-1)))]),
    .ret])
theorem ok54 : cfn Try.prog Try.f54 2 = some (s54, [.tmp 4]) := by kernel_rfl

/-! 55 impl.ExprOk -/
def s55 : SCode :=
  (sqs [
    (.reg [o 1 (.box 3 (T 0)), o 2 (.mov (B false))]),
    (.reg [o 3 (.fieldAddr 0 (T 1)), o 4 (.load false 1 (T 3)), o 5 (.call 34 [(T 4), (I 1), (I 7)]), o 6 (.mov (T 5)), og 7 (.fieldAddr 1 (T 1)) 6 true, og 8 (.load false 1 (T 7)) 6 true, og 9 (.call 72 [(T 8)]) 6 true, o 10 (.pick (T 6) (T 9) (B false)), o 11 (.mov (T 10)), og 12 (.fieldAddr 2 (T 1)) 11 true, og 13 (.load false 1 (T 12)) 11 true, og 14 (.call 72 [(T 13)]) 11 true, o 15 (.pick (T 11) (T 14) (B false)), o 2 (.mov (T 15))]),
    .ret])
theorem ok55 : cfn Try.prog Try.f55 1 = some (s55, [.tmp 2]) := by kernel_rfl

/-! 56 slices.Sort[[]int,int] -/
def s56 : SCode :=
  (sqs [
    (.reg [o 3 (.mov (T 0)), o 4 (.len (T 3)), o 2 (.mov (T 4))]),
    (.reg [o 5 (.mov (T 0)), o 6 (.mov (T 2)), o 7 (.mov (T 2)), o 8 (.conv .u64 (T 7)), o 9 (.call 74 [(T 8)]), o 10 (.call 73 [(T 5), (I 0), (T 6), (T 9)])])])
theorem ok56 : cfn Try.prog Try.f56 1 = some (s56, []) := by kernel_rfl

/-! 57 slices.Compact[[]int,int] -/
def s57 : SCode :=
  (sqs [
    (.reg [o 2 (.mov N)]),
    (sqs [
      (.reg [o 6 (.mov (T 0)), o 7 (.len (T 6)), o 8 (.bin .lss (T 7) (I 2))]),
      (.cond (T 8)
        (sqs [
          (.reg [o 9 (.mov (T 0)), o 2 (.mov (T 9))]),
          .ret])
        .skip)]),
    (sqs [
      (.reg [o 3 (.mov (I 1))]),
      (.block 0
        (.loop
          (sqs [
            (sqs [
              (.reg [o 10 (.mov (T 3)), o 11 (.mov (T 0)), o 12 (.len (T 11)), o 13 (.bin .lss (T 10) (T 12))]),
              (.cond (T 13)
                .skip
                (.exit 0))]),
            (.block 1
              (sqs [
                (.regD [o 16 (.mov (T 0)), o 17 (.mov (T 3)), o 18 (.idxAddr 1 (T 16) (T 17)), ⟨some 19, (.load false 1 (T 18)), none, 3, []⟩, o 20 (.mov (T 0)), o 21 (.mov (T 3)), o 22 (.bin .sub (T 21) (I 1)), o 23 (.idxAddr 1 (T 20) (T 22)), ⟨some 24, (.load false 1 (T 23)), none, 8, []⟩, o 25 (.bin .eql (T 19) (T 24))]),
                (.cond (T 25)
                  (sqs [
                    (.reg [o 26 (.mov (T 0)), o 27 (.mov (T 3)), o 28 (.slice 1 (T 26) (some (T 27)) none), o 4 (.mov (T 28))]),
                    (sqs [
                      (.reg [o 5 (.mov (I 1))]),
                      (.block 2
                        (.loop
                          (sqs [
                            (sqs [
                              (.reg [o 29 (.mov (T 5)), o 30 (.mov (T 4)), o 31 (.len (T 30)), o 32 (.bin .lss (T 29) (T 31))]),
                              (.cond (T 32)
                                .skip
                                (.exit 2))]),
                            (.block 3
                              (sqs [
                                (.regD [o 35 (.mov (T 4)), o 36 (.mov (T 5)), o 37 (.idxAddr 1 (T 35) (T 36)), ⟨some 38, (.load false 1 (T 37)), none, 3, []⟩, o 39 (.mov (T 4)), o 40 (.mov (T 5)), o 41 (.bin .sub (T 40) (I 1)), o 42 (.idxAddr 1 (T 39) (T 41)), ⟨some 43, (.load false 1 (T 42)), none, 8, []⟩, o 44 (.bin .neq (T 38) (T 43))]),
                                (.cond (T 44)
                                  (sqs [
                                    (.reg [o 45 (.mov (T 0)), o 46 (.mov (T 3)), o 47 (.mov (T 4)), o 48 (.mov (T 5)), o 49 (.idxAddr 1 (T 47) (T 48)), o 50 (.load false 1 (T 49)), o 51 (.idxAddr 1 (T 45) (T 46)), on_ (.store 1 (T 51) (T 50))]),
                                    (.reg [o 52 (.mov (T 3)), o 53 (.bin .add (T 52) (I 1)), o 3 (.mov (T 53))])])
                                  .skip)])),
                            (.reg [o 33 (.mov (T 5)), o 34 (.bin .add (T 33) (I 1)), o 5 (.mov (T 34))])])))]),
                    (.reg [o 54 (.mov (T 0)), o 55 (.mov (T 3)), o 56 (.slice 1 (T 54) (some (T 55)) none), on_ (.clear 1 [(.int .i64 0)] (T 56))]),
                    (.reg [o 57 (.mov (T 0)), o 58 (.mov (T 3)), o 59 (.slice 1 (T 57) none (some (T 58))), o 2 (.mov (T 59))]),
                    .ret])
                  .skip)])),
            (.reg [o 14 (.mov (T 3)), o 15 (.bin .add (T 14) (I 1)), o 3 (.mov (T 15))])])))]),
    (.reg [o 60 (.mov (T 0)), o 2 (.mov (T 60))]),
    .ret])
theorem ok57 : cfn Try.prog Try.f57 1 = some (s57, [.tmp 2]) := by kernel_rfl

/-! 58 impl.VarsOk -/
def s58 : SCode :=
  (sqs [
    (.reg [o 2 (.mov (B false))]),
    (.reg [o 3 (.mov (T 0)), o 4 (.len (T 3)), o 5 (.bin .eql (T 4) (I 8)), o 6 (.mov (T 5)), og 7 (.mov (T 0)) 6 true, og 8 (.call 75 [(T 7)]) 6 true, o 9 (.pick (T 6) (T 8) (B false)), o 2 (.mov (T 9))]),
    .ret])
theorem ok58 : cfn Try.prog Try.f58 1 = some (s58, [.tmp 2]) := by kernel_rfl

/-! 59 impl.operand -/
def s59 : SCode :=
  (sqs [
    (.reg [o 4 (.mov (I 0))]),
    (sqs [
      (.reg [o 5 (.mov (T 1)), o 6 (.bin .lss (T 5) (I 0))]),
      (.cond (T 6)
        (sqs [
          (.reg [o 7 (.mov (T 0)), o 8 (.mov (T 1)), o 9 (.bin .sub (I (-1)) (T 8)), o 10 (.idxAddr 1 (T 7) (T 9)), o 11 (.load false 1 (T 10)), o 4 (.mov (T 11))]),
          .ret])
        .skip)]),
    (.reg [o 12 (.mov (T 1)), o 4 (.mov (T 12))]),
    .ret])
theorem ok59 : cfn Try.prog Try.f59 2 = some (s59, [.tmp 4]) := by kernel_rfl

/-! 60 impl.AddValues -/
def s60 : SCode :=
  (sqs [
    (.reg [o 4 (.mov (I 0))]),
    (.reg [o 5 (.mov (T 0)), o 6 (.call 76 [(T 5)]), o 7 (.mov (T 1)), o 8 (.call 76 [(T 7)]), o 9 (.bin .add (T 6) (T 8)), o 10 (.call 76 [(T 9)]), o 4 (.mov (T 10))]),
    .ret])
theorem ok60 : cfn Try.prog Try.f60 2 = some (s60, [.tmp 4]) := by kernel_rfl

/-! 61 impl.SubValues -/
def s61 : SCode :=
  (sqs [
    (.reg [o 4 (.mov (I 0))]),
    (.reg [o 5 (.mov (T 0)), o 6 (.call 76 [(T 5)]), o 7 (.mov (T 1)), o 8 (.call 76 [(T 7)]), o 9 (.bin .sub (T 6) (T 8)), o 10 (.call 76 [(T 9)]), o 4 (.mov (T 10))]),
    .ret])
theorem ok61 : cfn Try.prog Try.f61 2 = some (s61, [.tmp 4]) := by kernel_rfl

/-! 62 impl.MulValues -/
def s62 : SCode :=
  (sqs [
    (.reg [o 4 (.mov (I 0))]),
    (.reg [o 5 (.mov (T 0)), o 6 (.call 76 [(T 5)]), o 7 (.mov (T 1)), o 8 (.call 76 [(T 7)]), o 9 (.bin .mul (T 6) (T 8)), o 10 (.call 76 [(T 9)]), o 4 (.mov (T 10))]),
    .ret])
theorem ok62 : cfn Try.prog Try.f62 2 = some (s62, [.tmp 4]) := by kernel_rfl

/-! 63 impl.bit -/
def s63 : SCode :=
  (sqs [
    (.reg [o 2 (.mov (I 0))]),
    (sqs [
      (.reg [o 3 (.mov (T 0))]),
      (.cond (T 3)
        (sqs [
          (.reg [o 2 (.mov (I 1))]),
          .ret])
        .skip)]),
    (.reg [o 2 (.mov (I 0))]),
    .ret])
theorem ok63 : cfn Try.prog Try.f63 1 = some (s63, [.tmp 2]) := by kernel_rfl

/-! 64 laws.eqTask -/
def s64 : SCode :=
  (sqs [
    (.reg [o 2 (.box 4 (T 0)), o 3 (.box 4 (T 1)), o 4 (.mov (B false))]),
    (sqs [
      (.reg [o 5 (.fieldAddr 0 (T 2)), o 6 (.load false 1 (T 5)), o 7 (.fieldAddr 0 (T 3)), o 8 (.load false 1 (T 7)), o 9 (.call 10 [(T 6), (T 8)]), o 10 (.not (T 9))]),
      (.cond (T 10)
        (sqs [
          (.reg [o 4 (.mov (B false))]),
          .ret])
        .skip)]),
    (sqs [
      (.reg [o 11 (.fieldAddr 1 (T 2)), o 12 (.load true 3 (T 11)), o 13 (.fieldAddr 1 (T 3)), o 14 (.load true 3 (T 13)), o 15 (.call 43 [(T 12), (T 14)]), o 16 (.not (T 15))]),
      (.cond (T 16)
        (sqs [
          (.reg [o 4 (.mov (B false))]),
          .ret])
        .skip)]),
    (.reg [o 4 (.mov (B true))]),
    .ret])
theorem ok64 : cfn Try.prog Try.f64 2 = some (s64, [.tmp 4]) := by kernel_rfl

/-! 65 spec.l04Plain -/
def s65 : SCode :=
  (sqs [
    (.reg [o 1 (.box 6 (T 0)), o 2 (.zero [(.int .i64 0), (.int .i64 0), (.int .i64 0), (.int .i64 0), (.int .i64 0), (.int .i64 0)])]),
    (.reg [o 4 (.fieldAddr 0 (T 1)), o 5 (.load false 1 (T 4)), o 6 (.build [(.int .i64 0), (.int .i64 0), (.int .i64 0), (.int .i64 0), (.int .i64 0), (.int .i64 0)] [(0, 1, (T 5))]), o 3 (.hole 6), o 3 (.birth 6 (T 3) (T 6))]),
    (sqs [
      (.reg [o 7 (.fieldAddr 0 (T 1)), o 8 (.load false 1 (T 7))]),
      (.block 0
        (sqs [
          (.reg [o 10 (.bin .eql (T 8) (I 1)), o 9 (.mov (T 10))]),
          (.cond (T 9)
            (sqs [
              (.reg [o 11 (.fieldAddr 1 (T 1)), o 12 (.load false 1 (T 11)), o 13 (.fieldAddr 1 (T 3)), on_ (.store 1 (T 13) (T 12))]),
              (.reg [o 14 (.fieldAddr 3 (T 1)), o 15 (.load true 3 (T 14)), o 16 (.fieldAddr 3 (T 3)), on_ (.store 3 (T 16) (T 15))])])
            (sqs [
              (.reg [o 18 (.bin .eql (T 8) (I 2)), o 17 (.mov (T 18))]),
              (.cond (T 17)
                (sqs [
                  (.reg [o 19 (.fieldAddr 1 (T 1)), o 20 (.load false 1 (T 19)), o 21 (.fieldAddr 1 (T 3)), on_ (.store 1 (T 21) (T 20))]),
                  (.reg [o 22 (.fieldAddr 2 (T 1)), o 23 (.load false 1 (T 22)), o 24 (.fieldAddr 2 (T 3)), on_ (.store 1 (T 24) (T 23))])])
                (sqs [
                  (sqs [
                    (.reg [o 26 (.bin .eql (T 8) (I 3)), o 25 (.mov (T 26))]),
                    (.cond (T 25)
                      .skip
                      (.reg [o 27 (.bin .eql (T 8) (I 4)), o 25 (.mov (T 27))]))]),
                  (.cond (T 25)
                    (.reg [o 28 (.fieldAddr 3 (T 1)), o 29 (.load true 3 (T 28)), o 30 (.fieldAddr 3 (T 3)), on_ (.store 3 (T 30) (T 29))])
                    (sqs [
                      (.reg [o 32 (.bin .eql (T 8) (I 5)), o 31 (.mov (T 32))]),
                      (.cond (T 31)
                        (.reg [o 33 (.fieldAddr 2 (T 1)), o 34 (.load false 1 (T 33)), o 35 (.fieldAddr 2 (T 3)), on_ (.store 1 (T 35) (T 34))])
                        .skip)]))]))]))]))]),
    (.reg [o 36 (.load true 6 (T 3)), on_ (.store 6 (T 2) (T 36))]),
    .ret])
theorem ok65 : cfn Try.prog Try.f65 1 = some (s65, [.cell 2 true 6]) := by kernel_rfl

/-! 66 impl.hasVar -/
def s66 : SCode :=
  (sqs [
    (.reg [o 2 (.mov (B false))]),
    (.reg [o 3 (.mov (T 0)), o 4 (.bin .eql (T 3) (I 1)), o 5 (.mov (T 4)), og 6 (.mov (T 0)) 5 false, og 7 (.bin .eql (T 6) (I 2)) 5 false, o 8 (.pick (T 5) (B true) (T 7)), o 2 (.mov (T 8))]),
    .ret])
theorem ok66 : cfn Try.prog Try.f66 1 = some (s66, [.tmp 2]) := by kernel_rfl

/-! 67 impl.isVar -/
def s67 : SCode :=
  (sqs [
    (.reg [o 2 (.mov (B false))]),
    (.reg [o 3 (.mov (T 0)), o 4 (.call 34 [(T 3), (I 0), (I 7)]), o 2 (.mov (T 4))]),
    .ret])
theorem ok67 : cfn Try.prog Try.f67 1 = some (s67, [.tmp 2]) := by kernel_rfl

/-! 68 impl.hasExpr -/
def s68 : SCode :=
  (sqs [
    (.reg [o 2 (.mov (B false))]),
    (.reg [o 3 (.mov (T 0)), o 4 (.bin .eql (T 3) (I 1)), o 5 (.mov (T 4)), og 6 (.mov (T 0)) 5 false, og 7 (.bin .eql (T 6) (I 3)) 5 false, o 8 (.pick (T 5) (B true) (T 7)), o 9 (.mov (T 8)), og 10 (.mov (T 0)) 9 false, og 11 (.bin .eql (T 10) (I 4)) 9 false, o 12 (.pick (T 9) (B true) (T 11)), o 2 (.mov (T 12))]),
    .ret])
theorem ok68 : cfn Try.prog Try.f68 1 = some (s68, [.tmp 2]) := by kernel_rfl

/-! 69 impl.isSensor -/
def s69 : SCode :=
  (sqs [
    (.reg [o 2 (.mov (B false))]),
    (.reg [o 3 (.mov (T 0)), o 4 (.call 34 [(T 3), (I 0), (I 3)]), o 2 (.mov (T 4))]),
    .ret])
theorem ok69 : cfn Try.prog Try.f69 1 = some (s69, [.tmp 2]) := by kernel_rfl

/-! 70 spec.OperandOk -/
def s70 : SCode :=
  (sqs [
    (.reg [o 2 (.mov (B false))]),
    (.reg [o 3 (.mov (T 0)), o 4 (.call 27 [(T 3), (I (-8)), (I 999)]), o 2 (.mov (T 4))]),
    .ret])
theorem ok70 : cfn Try.prog Try.f70 1 = some (s70, [.tmp 2]) := by kernel_rfl

/-! 71 spec.Saturate -/
def s71 : SCode :=
  (sqs [
    (.reg [o 2 (.mov (I 0))]),
    (.reg [o 3 (.mov (T 0)), o 4 (.call 77 [(T 3), (I (-1000000)), (I 1000000)]), o 2 (.mov (T 4))]),
    .ret])
theorem ok71 : cfn Try.prog Try.f71 1 = some (s71, [.tmp 2]) := by kernel_rfl

/-! 72 impl.OperandOk -/
def s72 : SCode :=
  (sqs [
    (.reg [o 2 (.mov (B false))]),
    (.reg [o 3 (.mov (T 0)), o 4 (.call 34 [(T 3), (I (-8)), (I 999)]), o 2 (.mov (T 4))]),
    .ret])
theorem ok72 : cfn Try.prog Try.f72 1 = some (s72, [.tmp 2]) := by kernel_rfl

/-! 73 slices.pdqsortOrdered[int] -/
def s73 : SCode :=
  (sqs [
    (.reg [o 8 (.mov (B true))]),
    (.reg [o 9 (.mov (B true))]),
    (.block 0
      (.loop
        (.block 1
          (sqs [
            (.reg [o 19 (.mov (T 2)), o 20 (.mov (T 1)), o 21 (.bin .sub (T 19) (T 20)), o 10 (.mov (T 21))]),
            (sqs [
              (.reg [o 22 (.mov (T 10)), o 23 (.bin .leq (T 22) (I 12))]),
              (.cond (T 23)
                (sqs [
                  (.reg [o 24 (.mov (T 0)), o 25 (.mov (T 1)), o 26 (.mov (T 2)), o 27 (.call 78 [(T 24), (T 25), (T 26)])]),
                  .ret])
                .skip)]),
            (sqs [
              (.reg [o 28 (.mov (T 3)), o 29 (.bin .eql (T 28) (I 0))]),
              (.cond (T 29)
                (sqs [
                  (.reg [o 30 (.mov (T 0)), o 31 (.mov (T 1)), o 32 (.mov (T 2)), o 33 (.call 79 [(T 30), (T 31), (T 32)])]),
                  .ret])
                .skip)]),
            (sqs [
              (.reg [o 34 (.mov (T 8)), o 35 (.not (T 34))]),
              (.cond (T 35)
                (sqs [
                  (.reg [o 36 (.mov (T 0)), o 37 (.mov (T 1)), o 38 (.mov (T 2)), o 39 (.call 80 [(T 36), (T 37), (T 38)])]),
                  (.reg [o 40 (.mov (T 3)), o 41 (.bin .sub (T 40) (I 1)), o 3 (.mov (T 41))])])
                .skip)]),
            (.reg [o 43 (.mov (T 0)), o 44 (.mov (T 1)), o 45 (.mov (T 2)), o 46 (.call 81 [(T 43), (T 44), (T 45)]), o 42 (.mov (T 46)), o 47 (.ext 0 (T 42)), o 48 (.ext 1 (T 42)), o 11 (.mov (T 47)), o 12 (.mov (T 48))]),
            (sqs [
              (.reg [o 49 (.mov (T 12)), o 50 (.bin .eql (T 49) (I 2))]),
              (.cond (T 50)
                (sqs [
                  (.reg [o 51 (.mov (T 0)), o 52 (.mov (T 1)), o 53 (.mov (T 2)), o 54 (.call 82 [(T 51), (T 52), (T 53)])]),
                  (.reg [o 55 (.mov (T 2)), o 56 (.bin .sub (T 55) (I 1)), o 57 (.mov (T 11)), o 58 (.mov (T 1)), o 59 (.bin .sub (T 57) (T 58)), o 60 (.bin .sub (T 56) (T 59)), o 11 (.mov (T 60))]),
                  (.reg [o 12 (.mov (I 1))])])
                .skip)]),
            (sqs [
              (.reg [o 61 (.mov (T 8)), o 62 (.mov (T 61)), og 63 (.mov (T 9)) 62 true, o 64 (.pick (T 62) (T 63) (B false)), o 65 (.mov (T 64)), og 66 (.mov (T 12)) 65 true, og 67 (.bin .eql (T 66) (I 1)) 65 true, o 68 (.pick (T 65) (T 67) (B false))]),
              (.cond (T 68)
                (sqs [
                  (.reg [o 69 (.mov (T 0)), o 70 (.mov (T 1)), o 71 (.mov (T 2)), o 72 (.call 83 [(T 69), (T 70), (T 71)])]),
                  (.cond (T 72)
                    .ret
                    .skip)])
                .skip)]),
            (sqs [
              (.regD [o 73 (.mov (T 1)), o 74 (.bin .gtr (T 73) (I 0)), o 75 (.mov (T 74)), og 76 (.mov (T 0)) 75 true, og 77 (.mov (T 1)) 75 true, og 78 (.bin .sub (T 77) (I 1)) 75 true, og 79 (.idxAddr 1 (T 76) (T 78)) 75 true, ⟨some 80, (.load false 1 (T 79)), some (75, true), 7, []⟩, og 81 (.mov (T 0)) 75 true, og 82 (.mov (T 11)) 75 true, og 83 (.idxAddr 1 (T 81) (T 82)) 75 true, ⟨some 84, (.load false 1 (T 83)), some (75, true), 11, []⟩, og 85 (.call 84 [(T 80), (T 84)]) 75 true, og 86 (.not (T 85)) 75 true, o 87 (.pick (T 75) (T 86) (B false))]),
              (.cond (T 87)
                (sqs [
                  (.reg [o 88 (.mov (T 0)), o 89 (.mov (T 1)), o 90 (.mov (T 2)), o 91 (.mov (T 11)), o 92 (.call 85 [(T 88), (T 89), (T 90), (T 91)]), o 13 (.mov (T 92))]),
                  (.reg [o 93 (.mov (T 13)), o 1 (.mov (T 93))]),
                  (.exit 1)])
                .skip)]),
            (.reg [o 95 (.mov (T 0)), o 96 (.mov (T 1)), o 97 (.mov (T 2)), o 98 (.mov (T 11)), o 99 (.call 86 [(T 95), (T 96), (T 97), (T 98)]), o 94 (.mov (T 99)), o 100 (.ext 0 (T 94)), o 101 (.ext 1 (T 94)), o 14 (.mov (T 100)), o 15 (.mov (T 101))]),
            (.reg [o 102 (.mov (T 15)), o 9 (.mov (T 102))]),
            (.reg [o 103 (.mov (T 14)), o 104 (.mov (T 1)), o 105 (.bin .sub (T 103) (T 104)), o 106 (.mov (T 2)), o 107 (.mov (T 14)), o 108 (.bin .sub (T 106) (T 107)), o 16 (.mov (T 105)), o 17 (.mov (T 108))]),
            (.reg [o 109 (.mov (T 10)), o 110 (.bin .quo (T 109) (I 8)), o 18 (.mov (T 110))]),
            (.reg [o 111 (.mov (T 16)), o 112 (.mov (T 17)), o 113 (.bin .lss (T 111) (T 112))]),
            (.cond (T 113)
              (sqs [
                (.reg [o 114 (.mov (T 16)), o 115 (.mov (T 18)), o 116 (.bin .geq (T 114) (T 115)), o 8 (.mov (T 116))]),
                (.reg [o 117 (.mov (T 0)), o 118 (.mov (T 1)), o 119 (.mov (T 14)), o 120 (.mov (T 3)), o 121 (.call 73 [(T 117), (T 118), (T 119), (T 120)])]),
                (.reg [o 122 (.mov (T 14)), o 123 (.bin .add (T 122) (I 1)), o 1 (.mov (T 123))])])
              (sqs [
                (.reg [o 124 (.mov (T 17)), o 125 (.mov (T 18)), o 126 (.bin .geq (T 124) (T 125)), o 8 (.mov (T 126))]),
                (.reg [o 127 (.mov (T 0)), o 128 (.mov (T 14)), o 129 (.bin .add (T 128) (I 1)), o 130 (.mov (T 2)), o 131 (.mov (T 3)), o 132 (.call 73 [(T 127), (T 129), (T 130), (T 131)])]),
                (.reg [o 133 (.mov (T 14)), o 2 (.mov (T 133))])]))]))))])
theorem ok73 : cfn Try.prog Try.f73 4 = some (s73, []) := by kernel_rfl

/-! 74 math/bits.Len -/
def s74 : SCode :=
  (sqs [
    (.reg [o 2 (.mov (I 0))]),
    (.cond (B false)
      (sqs [
        (.reg [o 3 (.mov (T 0)), o 4 (.conv .u32 (T 3)), o 5 (.call 87 [(T 4)]), o 2 (.mov (T 5))]),
        .ret])
      .skip),
    (.reg [o 6 (.mov (T 0)), o 7 (.call 88 [(T 6)]), o 2 (.mov (T 7))]),
    .ret])
theorem ok74 : cfn Try.prog Try.f74 1 = some (s74, [.tmp 2]) := by kernel_rfl

/-! 75 impl.areValues -/
def s75 : SCode :=
  (sqs [
    (.reg [o 2 (.mov (B false))]),
    (.reg [o 3 (.mov (T 0)), o 4 (.call 89 [(T 3), (.val (.fn 90 []))]), o 5 (.not (T 4)), o 2 (.mov (T 5))]),
    .ret])
theorem ok75 : cfn Try.prog Try.f75 1 = some (s75, [.tmp 2]) := by kernel_rfl

/-! 76 impl.Saturate -/
def s76 : SCode :=
  (sqs [
    (.reg [o 2 (.mov (I 0))]),
    (.reg [o 3 (.mov (T 0)), o 4 (.call 92 [(T 3), (I (-1000000)), (I 1000000)]), o 2 (.mov (T 4))]),
    .ret])
theorem ok76 : cfn Try.prog Try.f76 1 = some (s76, [.tmp 2]) := by kernel_rfl

/-! 77 spec.Clamp -/
def s77 : SCode :=
  (sqs [
    (.reg [o 6 (.mov (I 0))]),
    (sqs [
      (.reg [o 7 (.mov (T 2)), o 8 (.mov (T 1)), o 9 (.bin .lss (T 7) (T 8)), o 10 (.mov (T 9)), og 11 (.mov (T 0)) 10 false, og 12 (.mov (T 1)) 10 false, og 13 (.bin .lss (T 11) (T 12)) 10 false, o 14 (.pick (T 10) (B true) (T 13))]),
      (.cond (T 14)
        (sqs [
          (.reg [o 15 (.mov (T 1)), o 6 (.mov (T 15))]),
          .ret])
        .skip)]),
    (sqs [
      (.reg [o 16 (.mov (T 0)), o 17 (.mov (T 2)), o 18 (.bin .gtr (T 16) (T 17))]),
      (.cond (T 18)
        (sqs [
          (.reg [o 19 (.mov (T 2)), o 6 (.mov (T 19))]),
          .ret])
        .skip)]),
    (.reg [o 20 (.mov (T 0)), o 6 (.mov (T 20))]),
    .ret])
theorem ok77 : cfn Try.prog Try.f77 3 = some (s77, [.tmp 6]) := by kernel_rfl

/-! 78 slices.insertionSortOrdered[int] -/
def s78 : SCode :=
  (sqs [
    (.reg [o 8 (.mov (T 1)), o 9 (.bin .add (T 8) (I 1)), o 6 (.mov (T 9))]),
    (.block 0
      (.loop
        (sqs [
          (sqs [
            (.reg [o 10 (.mov (T 6)), o 11 (.mov (T 2)), o 12 (.bin .lss (T 10) (T 11))]),
            (.cond (T 12)
              .skip
              (.exit 0))]),
          (.block 1
            (sqs [
              (.reg [o 15 (.mov (T 6)), o 7 (.mov (T 15))]),
              (.block 2
                (.loop
                  (sqs [
                    (sqs [
                      (.regD [o 16 (.mov (T 7)), o 17 (.mov (T 1)), o 18 (.bin .gtr (T 16) (T 17)), o 19 (.mov (T 18)), og 20 (.mov (T 0)) 19 true, og 21 (.mov (T 7)) 19 true, og 22 (.idxAddr 1 (T 20) (T 21)) 19 true, ⟨some 23, (.load false 1 (T 22)), some (19, true), 7, []⟩, og 24 (.mov (T 0)) 19 true, og 25 (.mov (T 7)) 19 true, og 26 (.bin .sub (T 25) (I 1)) 19 true, og 27 (.idxAddr 1 (T 24) (T 26)) 19 true, ⟨some 28, (.load false 1 (T 27)), some (19, true), 12, []⟩, og 29 (.call 84 [(T 23), (T 28)]) 19 true, o 30 (.pick (T 19) (T 29) (B false))]),
                      (.cond (T 30)
                        .skip
                        (.exit 2))]),
                    (.block 3
                      (.regD [o 33 (.mov (T 0)), o 34 (.mov (T 7)), o 35 (.mov (T 0)), o 36 (.mov (T 7)), o 37 (.bin .sub (T 36) (I 1)), o 38 (.mov (T 0)), o 39 (.mov (T 7)), o 40 (.bin .sub (T 39) (I 1)), o 41 (.idxAddr 1 (T 38) (T 40)), ⟨some 42, (.load false 1 (T 41)), none, 9, []⟩, o 43 (.mov (T 0)), o 44 (.mov (T 7)), o 45 (.idxAddr 1 (T 43) (T 44)), ⟨some 46, (.load false 1 (T 45)), none, 13, []⟩, o 47 (.idxAddr 1 (T 33) (T 34)), on_ (.store 1 (T 47) (T 42)), o 48 (.idxAddr 1 (T 35) (T 37)), on_ (.store 1 (T 48) (T 46))])),
                    (.reg [o 31 (.mov (T 7)), o 32 (.bin .sub (T 31) (I 1)), o 7 (.mov (T 32))])])))])),
          (.reg [o 13 (.mov (T 6)), o 14 (.bin .add (T 13) (I 1)), o 6 (.mov (T 14))])])))])
theorem ok78 : cfn Try.prog Try.f78 3 = some (s78, []) := by kernel_rfl

/-! 79 slices.heapSortOrdered[int] -/
def s79 : SCode :=
  (sqs [
    (.reg [o 11 (.mov (T 1)), o 6 (.mov (T 11))]),
    (.reg [o 7 (.mov (I 0))]),
    (.reg [o 12 (.mov (T 2)), o 13 (.mov (T 1)), o 14 (.bin .sub (T 12) (T 13)), o 8 (.mov (T 14))]),
    (sqs [
      (.reg [o 15 (.mov (T 8)), o 16 (.bin .sub (T 15) (I 1)), o 17 (.bin .quo (T 16) (I 2)), o 9 (.mov (T 17))]),
      (.block 0
        (.loop
          (sqs [
            (sqs [
              (.reg [o 18 (.mov (T 9)), o 19 (.bin .geq (T 18) (I 0))]),
              (.cond (T 19)
                .skip
                (.exit 0))]),
            (.block 1
              (.reg [o 22 (.mov (T 0)), o 23 (.mov (T 9)), o 24 (.mov (T 8)), o 25 (.mov (T 6)), o 26 (.call 93 [(T 22), (T 23), (T 24), (T 25)])])),
            (.reg [o 20 (.mov (T 9)), o 21 (.bin .sub (T 20) (I 1)), o 9 (.mov (T 21))])])))]),
    (.reg [o 27 (.mov (T 8)), o 28 (.bin .sub (T 27) (I 1)), o 10 (.mov (T 28))]),
    (.block 2
      (.loop
        (sqs [
          (sqs [
            (.reg [o 29 (.mov (T 10)), o 30 (.bin .geq (T 29) (I 0))]),
            (.cond (T 30)
              .skip
              (.exit 2))]),
          (.block 3
            (sqs [
              (.regD [o 33 (.mov (T 0)), o 34 (.mov (T 6)), o 35 (.mov (T 0)), o 36 (.mov (T 6)), o 37 (.mov (T 10)), o 38 (.bin .add (T 36) (T 37)), o 39 (.mov (T 0)), o 40 (.mov (T 6)), o 41 (.mov (T 10)), o 42 (.bin .add (T 40) (T 41)), o 43 (.idxAddr 1 (T 39) (T 42)), ⟨some 44, (.load false 1 (T 43)), none, 11, []⟩, o 45 (.mov (T 0)), o 46 (.mov (T 6)), o 47 (.idxAddr 1 (T 45) (T 46)), ⟨some 48, (.load false 1 (T 47)), none, 15, []⟩, o 49 (.idxAddr 1 (T 33) (T 34)), on_ (.store 1 (T 49) (T 44)), o 50 (.idxAddr 1 (T 35) (T 38)), on_ (.store 1 (T 50) (T 48))]),
              (.reg [o 51 (.mov (T 0)), o 52 (.mov (T 7)), o 53 (.mov (T 10)), o 54 (.mov (T 6)), o 55 (.call 93 [(T 51), (T 52), (T 53), (T 54)])])])),
          (.reg [o 31 (.mov (T 10)), o 32 (.bin .sub (T 31) (I 1)), o 10 (.mov (T 32))])])))])
theorem ok79 : cfn Try.prog Try.f79 3 = some (s79, []) := by kernel_rfl

/-! 80 slices.breakPatternsOrdered[int] -/
def s80 : SCode :=
  (sqs [
    (.reg [o 11 (.mov (T 2)), o 12 (.mov (T 1)), o 13 (.bin .sub (T 11) (T 12)), o 6 (.mov (T 13))]),
    (.reg [o 14 (.mov (T 6)), o 15 (.bin .geq (T 14) (I 8))]),
    (.cond (T 15)
      (sqs [
        (.reg [o 16 (.mov (T 6)), o 17 (.conv .u64 (T 16)), o 7 (.hole 1), o 7 (.birth 1 (T 7) (T 17))]),
        (.reg [o 18 (.mov (T 6)), o 19 (.call 94 [(T 18)]), o 8 (.mov (T 19))]),
        (.reg [o 20 (.mov (T 1)), o 21 (.mov (T 6)), o 22 (.bin .quo (T 21) (I 4)), o 23 (.bin .mul (T 22) (I 2)), o 24 (.bin .add (T 20) (T 23)), o 25 (.bin .sub (T 24) (I 1)), o 9 (.mov (T 25))]),
        (.block 0
          (.loop
            (sqs [
              (sqs [
                (.reg [o 26 (.mov (T 9)), o 27 (.mov (T 1)), o 28 (.mov (T 6)), o 29 (.bin .quo (T 28) (I 4)), o 30 (.bin .mul (T 29) (I 2)), o 31 (.bin .add (T 27) (T 30)), o 32 (.bin .add (T 31) (I 1)), o 33 (.bin .leq (T 26) (T 32))]),
                (.cond (T 33)
                  .skip
                  (.exit 0))]),
              (.block 1
                (sqs [
                  (.reg [o 36 (.call 95 [(T 7)]), o 37 (.mov (T 8)), o 38 (.bin .sub (T 37) (.val (.int .u64 1))), o 39 (.bin .and (T 36) (T 38)), o 40 (.conv .i64 (T 39)), o 10 (.mov (T 40))]),
                  (sqs [
                    (.reg [o 41 (.mov (T 10)), o 42 (.mov (T 6)), o 43 (.bin .geq (T 41) (T 42))]),
                    (.cond (T 43)
                      (.reg [o 44 (.mov (T 10)), o 45 (.mov (T 6)), o 46 (.bin .sub (T 44) (T 45)), o 10 (.mov (T 46))])
                      .skip)]),
                  (.regD [o 47 (.mov (T 0)), o 48 (.mov (T 9)), o 49 (.mov (T 0)), o 50 (.mov (T 1)), o 51 (.mov (T 10)), o 52 (.bin .add (T 50) (T 51)), o 53 (.mov (T 0)), o 54 (.mov (T 1)), o 55 (.mov (T 10)), o 56 (.bin .add (T 54) (T 55)), o 57 (.idxAddr 1 (T 53) (T 56)), ⟨some 58, (.load false 1 (T 57)), none, 11, []⟩, o 59 (.mov (T 0)), o 60 (.mov (T 9)), o 61 (.idxAddr 1 (T 59) (T 60)), ⟨some 62, (.load false 1 (T 61)), none, 15, []⟩, o 63 (.idxAddr 1 (T 47) (T 48)), on_ (.store 1 (T 63) (T 58)), o 64 (.idxAddr 1 (T 49) (T 52)), on_ (.store 1 (T 64) (T 62))])])),
              (.reg [o 34 (.mov (T 9)), o 35 (.bin .add (T 34) (I 1)), o 9 (.mov (T 35))])])))])
      .skip)])
theorem ok80 : cfn Try.prog Try.f80 3 = some (s80, []) := by kernel_rfl

/-! 81 slices.choosePivotOrdered[int] -/
def s81 : SCode :=
  (sqs [
    (.reg [o 6 (.mov (I 0)), o 7 (.mov (I 0))]),
    (.reg [o 13 (.mov (T 2)), o 14 (.mov (T 1)), o 15 (.bin .sub (T 13) (T 14)), o 8 (.mov (T 15))]),
    (.reg [o 9 (.zero [(.int .i64 0)])]),
    (.reg [o 16 (.mov (T 1)), o 17 (.mov (T 8)), o 18 (.bin .quo (T 17) (I 4)), o 19 (.bin .mul (T 18) (I 1)), o 20 (.bin .add (T 16) (T 19)), o 10 (.mov (T 20))]),
    (.reg [o 21 (.mov (T 1)), o 22 (.mov (T 8)), o 23 (.bin .quo (T 22) (I 4)), o 24 (.bin .mul (T 23) (I 2)), o 25 (.bin .add (T 21) (T 24)), o 11 (.mov (T 25))]),
    (.reg [o 26 (.mov (T 1)), o 27 (.mov (T 8)), o 28 (.bin .quo (T 27) (I 4)), o 29 (.bin .mul (T 28) (I 3)), o 30 (.bin .add (T 26) (T 29)), o 12 (.mov (T 30))]),
    (sqs [
      (.reg [o 31 (.mov (T 8)), o 32 (.bin .geq (T 31) (I 8))]),
      (.cond (T 32)
        (sqs [
          (sqs [
            (.reg [o 33 (.mov (T 8)), o 34 (.bin .geq (T 33) (I 50))]),
            (.cond (T 34)
              (sqs [
                (.reg [o 35 (.mov (T 0)), o 36 (.mov (T 10)), o 37 (.call 96 [(T 35), (T 36), (T 9)]), o 10 (.mov (T 37))]),
                (.reg [o 38 (.mov (T 0)), o 39 (.mov (T 11)), o 40 (.call 96 [(T 38), (T 39), (T 9)]), o 11 (.mov (T 40))]),
                (.reg [o 41 (.mov (T 0)), o 42 (.mov (T 12)), o 43 (.call 96 [(T 41), (T 42), (T 9)]), o 12 (.mov (T 43))])])
              .skip)]),
          (.reg [o 44 (.mov (T 0)), o 45 (.mov (T 10)), o 46 (.mov (T 11)), o 47 (.mov (T 12)), o 48 (.call 97 [(T 44), (T 45), (T 46), (T 47), (T 9)]), o 11 (.mov (T 48))])])
        .skip)]),
    (.reg [o 49 (.load false 1 (T 9))]),
    (.block 0
      (sqs [
        (.reg [o 52 (.bin .eql (T 49) (I 0)), o 51 (.mov (T 52))]),
        (.cond (T 51)
          (sqs [
            (.reg [o 53 (.mov (T 11)), o 6 (.mov (T 53)), o 7 (.mov (I 1))]),
            .ret])
          (sqs [
            (.reg [o 55 (.bin .eql (T 49) (I 12)), o 54 (.mov (T 55))]),
            (.cond (T 54)
              (sqs [
                (.reg [o 56 (.mov (T 11)), o 6 (.mov (T 56)), o 7 (.mov (I 2))]),
                .ret])
              (sqs [
                (.reg [o 50 (.mov (T 11)), o 6 (.mov (T 50)), o 7 (.mov (I 0))]),
                .ret]))]))]))])
theorem ok81 : cfn Try.prog Try.f81 3 = some (s81, [.tmp 6, .tmp 7]) := by kernel_rfl

/-! 82 slices.reverseRangeOrdered[int] -/
def s82 : SCode :=
  (sqs [
    (.reg [o 8 (.mov (T 1)), o 6 (.mov (T 8))]),
    (.reg [o 9 (.mov (T 2)), o 10 (.bin .sub (T 9) (I 1)), o 7 (.mov (T 10))]),
    (.block 0
      (.loop
        (sqs [
          (sqs [
            (.reg [o 11 (.mov (T 6)), o 12 (.mov (T 7)), o 13 (.bin .lss (T 11) (T 12))]),
            (.cond (T 13)
              .skip
              (.exit 0))]),
          (.block 1
            (sqs [
              (.regD [o 14 (.mov (T 0)), o 15 (.mov (T 6)), o 16 (.mov (T 0)), o 17 (.mov (T 7)), o 18 (.mov (T 0)), o 19 (.mov (T 7)), o 20 (.idxAddr 1 (T 18) (T 19)), ⟨some 21, (.load false 1 (T 20)), none, 7, []⟩, o 22 (.mov (T 0)), o 23 (.mov (T 6)), o 24 (.idxAddr 1 (T 22) (T 23)), ⟨some 25, (.load false 1 (T 24)), none, 11, []⟩, o 26 (.idxAddr 1 (T 14) (T 15)), on_ (.store 1 (T 26) (T 21)), o 27 (.idxAddr 1 (T 16) (T 17)), on_ (.store 1 (T 27) (T 25))]),
              (.reg [o 28 (.mov (T 6)), o 29 (.bin .add (T 28) (I 1)), o 6 (.mov (T 29))]),
              (.reg [o 30 (.mov (T 7)), o 31 (.bin .sub (T 30) (I 1)), o 7 (.mov (T 31))])]))])))])
theorem ok82 : cfn Try.prog Try.f82 3 = some (s82, []) := by kernel_rfl

/-! 83 slices.partialInsertionSortOrdered[int] -/
def s83 : SCode :=
  (sqs [
    (.reg [o 6 (.mov (B false))]),
    (.reg [o 11 (.mov (T 1)), o 12 (.bin .add (T 11) (I 1)), o 7 (.mov (T 12))]),
    (sqs [
      (.reg [o 8 (.mov (I 0))]),
      (.block 0
        (.loop
          (sqs [
            (sqs [
              (.reg [o 13 (.mov (T 8)), o 14 (.bin .lss (T 13) (I 5))]),
              (.cond (T 14)
                .skip
                (.exit 0))]),
            (.block 1
              (sqs [
                (.block 2
                  (.loop
                    (sqs [
                      (sqs [
                        (.regD [o 17 (.mov (T 7)), o 18 (.mov (T 2)), o 19 (.bin .lss (T 17) (T 18)), o 20 (.mov (T 19)), og 21 (.mov (T 0)) 20 true, og 22 (.mov (T 7)) 20 true, og 23 (.idxAddr 1 (T 21) (T 22)) 20 true, ⟨some 24, (.load false 1 (T 23)), some (20, true), 7, []⟩, og 25 (.mov (T 0)) 20 true, og 26 (.mov (T 7)) 20 true, og 27 (.bin .sub (T 26) (I 1)) 20 true, og 28 (.idxAddr 1 (T 25) (T 27)) 20 true, ⟨some 29, (.load false 1 (T 28)), some (20, true), 12, []⟩, og 30 (.call 84 [(T 24), (T 29)]) 20 true, og 31 (.not (T 30)) 20 true, o 32 (.pick (T 20) (T 31) (B false))]),
                        (.cond (T 32)
                          .skip
                          (.exit 2))]),
                      (.block 3
                        (.reg [o 33 (.mov (T 7)), o 34 (.bin .add (T 33) (I 1)), o 7 (.mov (T 34))]))]))),
                (sqs [
                  (.reg [o 35 (.mov (T 7)), o 36 (.mov (T 2)), o 37 (.bin .eql (T 35) (T 36))]),
                  (.cond (T 37)
                    (sqs [
                      (.reg [o 6 (.mov (B true))]),
                      .ret])
                    .skip)]),
                (sqs [
                  (.reg [o 38 (.mov (T 2)), o 39 (.mov (T 1)), o 40 (.bin .sub (T 38) (T 39)), o 41 (.bin .lss (T 40) (I 50))]),
                  (.cond (T 41)
                    (sqs [
                      (.reg [o 6 (.mov (B false))]),
                      .ret])
                    .skip)]),
                (.regD [o 42 (.mov (T 0)), o 43 (.mov (T 7)), o 44 (.mov (T 0)), o 45 (.mov (T 7)), o 46 (.bin .sub (T 45) (I 1)), o 47 (.mov (T 0)), o 48 (.mov (T 7)), o 49 (.bin .sub (T 48) (I 1)), o 50 (.idxAddr 1 (T 47) (T 49)), ⟨some 51, (.load false 1 (T 50)), none, 9, []⟩, o 52 (.mov (T 0)), o 53 (.mov (T 7)), o 54 (.idxAddr 1 (T 52) (T 53)), ⟨some 55, (.load false 1 (T 54)), none, 13, []⟩, o 56 (.idxAddr 1 (T 42) (T 43)), on_ (.store 1 (T 56) (T 51)), o 57 (.idxAddr 1 (T 44) (T 46)), on_ (.store 1 (T 57) (T 55))]),
                (sqs [
                  (.reg [o 58 (.mov (T 7)), o 59 (.mov (T 1)), o 60 (.bin .sub (T 58) (T 59)), o 61 (.bin .geq (T 60) (I 2))]),
                  (.cond (T 61)
                    (sqs [
                      (.reg [o 62 (.mov (T 7)), o 63 (.bin .sub (T 62) (I 1)), o 9 (.mov (T 63))]),
                      (.block 4
                        (.loop
                          (sqs [
                            (sqs [
                              (.reg [o 64 (.mov (T 9)), o 65 (.bin .geq (T 64) (I 1))]),
                              (.cond (T 65)
                                .skip
                                (.exit 4))]),
                            (.block 5
                              (sqs [
                                (sqs [
                                  (.regD [o 68 (.mov (T 0)), o 69 (.mov (T 9)), o 70 (.idxAddr 1 (T 68) (T 69)), ⟨some 71, (.load false 1 (T 70)), none, 3, []⟩, o 72 (.mov (T 0)), o 73 (.mov (T 9)), o 74 (.bin .sub (T 73) (I 1)), o 75 (.idxAddr 1 (T 72) (T 74)), ⟨some 76, (.load false 1 (T 75)), none, 8, []⟩, o 77 (.call 84 [(T 71), (T 76)]), o 78 (.not (T 77))]),
                                  (.cond (T 78)
                                    (.exit 4)
                                    .skip)]),
                                (.regD [o 79 (.mov (T 0)), o 80 (.mov (T 9)), o 81 (.mov (T 0)), o 82 (.mov (T 9)), o 83 (.bin .sub (T 82) (I 1)), o 84 (.mov (T 0)), o 85 (.mov (T 9)), o 86 (.bin .sub (T 85) (I 1)), o 87 (.idxAddr 1 (T 84) (T 86)), ⟨some 88, (.load false 1 (T 87)), none, 9, []⟩, o 89 (.mov (T 0)), o 90 (.mov (T 9)), o 91 (.idxAddr 1 (T 89) (T 90)), ⟨some 92, (.load false 1 (T 91)), none, 13, []⟩, o 93 (.idxAddr 1 (T 79) (T 80)), on_ (.store 1 (T 93) (T 88)), o 94 (.idxAddr 1 (T 81) (T 83)), on_ (.store 1 (T 94) (T 92))])])),
                            (.reg [o 66 (.mov (T 9)), o 67 (.bin .sub (T 66) (I 1)), o 9 (.mov (T 67))])])))])
                    .skip)]),
                (.reg [o 95 (.mov (T 2)), o 96 (.mov (T 7)), o 97 (.bin .sub (T 95) (T 96)), o 98 (.bin .geq (T 97) (I 2))]),
                (.cond (T 98)
                  (sqs [
                    (.reg [o 99 (.mov (T 7)), o 100 (.bin .add (T 99) (I 1)), o 10 (.mov (T 100))]),
                    (.block 6
                      (.loop
                        (sqs [
                          (sqs [
                            (.reg [o 101 (.mov (T 10)), o 102 (.mov (T 2)), o 103 (.bin .lss (T 101) (T 102))]),
                            (.cond (T 103)
                              .skip
                              (.exit 6))]),
                          (.block 7
                            (sqs [
                              (sqs [
                                (.regD [o 106 (.mov (T 0)), o 107 (.mov (T 10)), o 108 (.idxAddr 1 (T 106) (T 107)), ⟨some 109, (.load false 1 (T 108)), none, 3, []⟩, o 110 (.mov (T 0)), o 111 (.mov (T 10)), o 112 (.bin .sub (T 111) (I 1)), o 113 (.idxAddr 1 (T 110) (T 112)), ⟨some 114, (.load false 1 (T 113)), none, 8, []⟩, o 115 (.call 84 [(T 109), (T 114)]), o 116 (.not (T 115))]),
                                (.cond (T 116)
                                  (.exit 6)
                                  .skip)]),
                              (.regD [o 117 (.mov (T 0)), o 118 (.mov (T 10)), o 119 (.mov (T 0)), o 120 (.mov (T 10)), o 121 (.bin .sub (T 120) (I 1)), o 122 (.mov (T 0)), o 123 (.mov (T 10)), o 124 (.bin .sub (T 123) (I 1)), o 125 (.idxAddr 1 (T 122) (T 124)), ⟨some 126, (.load false 1 (T 125)), none, 9, []⟩, o 127 (.mov (T 0)), o 128 (.mov (T 10)), o 129 (.idxAddr 1 (T 127) (T 128)), ⟨some 130, (.load false 1 (T 129)), none, 13, []⟩, o 131 (.idxAddr 1 (T 117) (T 118)), on_ (.store 1 (T 131) (T 126)), o 132 (.idxAddr 1 (T 119) (T 121)), on_ (.store 1 (T 132) (T 130))])])),
                          (.reg [o 104 (.mov (T 10)), o 105 (.bin .add (T 104) (I 1)), o 10 (.mov (T 105))])])))])
                  .skip)])),
            (.reg [o 15 (.mov (T 8)), o 16 (.bin .add (T 15) (I 1)), o 8 (.mov (T 16))])])))]),
    (.reg [o 6 (.mov (B false))]),
    .ret])
theorem ok83 : cfn Try.prog Try.f83 3 = some (s83, [.tmp 6]) := by kernel_rfl

/-! 84 cmp.Less[int] -/
def s84 : SCode :=
  (sqs [
    (.reg [o 4 (.mov (B false))]),
    (.reg [o 5 (.mov (T 0)), o 6 (.call 98 [(T 5)]), o 7 (.mov (T 6)), og 8 (.mov (T 1)) 7 true, og 9 (.call 98 [(T 8)]) 7 true, og 10 (.not (T 9)) 7 true, o 11 (.pick (T 7) (T 10) (B false)), o 12 (.mov (T 11)), og 13 (.mov (T 0)) 12 false, og 14 (.mov (T 1)) 12 false, og 15 (.bin .lss (T 13) (T 14)) 12 false, o 16 (.pick (T 12) (B true) (T 15)), o 4 (.mov (T 16))]),
    .ret])
theorem ok84 : cfn Try.prog Try.f84 2 = some (s84, [.tmp 4]) := by kernel_rfl

/-! 85 slices.partitionEqualOrdered[int] -/
def s85 : SCode :=
  (sqs [
    (.reg [o 8 (.mov (I 0))]),
    (.regD [o 11 (.mov (T 0)), o 12 (.mov (T 1)), o 13 (.mov (T 0)), o 14 (.mov (T 3)), o 15 (.mov (T 0)), o 16 (.mov (T 3)), o 17 (.idxAddr 1 (T 15) (T 16)), ⟨some 18, (.load false 1 (T 17)), none, 7, []⟩, o 19 (.mov (T 0)), o 20 (.mov (T 1)), o 21 (.idxAddr 1 (T 19) (T 20)), ⟨some 22, (.load false 1 (T 21)), none, 11, []⟩, o 23 (.idxAddr 1 (T 11) (T 12)), on_ (.store 1 (T 23) (T 18)), o 24 (.idxAddr 1 (T 13) (T 14)), on_ (.store 1 (T 24) (T 22))]),
    (.reg [o 25 (.mov (T 1)), o 26 (.bin .add (T 25) (I 1)), o 27 (.mov (T 2)), o 28 (.bin .sub (T 27) (I 1)), o 9 (.mov (T 26)), o 10 (.mov (T 28))]),
    (.block 0
      (.loop
        (.block 1
          (sqs [
            (.block 2
              (.loop
                (sqs [
                  (sqs [
                    (.regD [o 29 (.mov (T 9)), o 30 (.mov (T 10)), o 31 (.bin .leq (T 29) (T 30)), o 32 (.mov (T 31)), og 33 (.mov (T 0)) 32 true, og 34 (.mov (T 1)) 32 true, og 35 (.idxAddr 1 (T 33) (T 34)) 32 true, ⟨some 36, (.load false 1 (T 35)), some (32, true), 7, []⟩, og 37 (.mov (T 0)) 32 true, og 38 (.mov (T 9)) 32 true, og 39 (.idxAddr 1 (T 37) (T 38)) 32 true, ⟨some 40, (.load false 1 (T 39)), some (32, true), 11, []⟩, og 41 (.call 84 [(T 36), (T 40)]) 32 true, og 42 (.not (T 41)) 32 true, o 43 (.pick (T 32) (T 42) (B false))]),
                    (.cond (T 43)
                      .skip
                      (.exit 2))]),
                  (.block 3
                    (.reg [o 44 (.mov (T 9)), o 45 (.bin .add (T 44) (I 1)), o 9 (.mov (T 45))]))]))),
            (.block 4
              (.loop
                (sqs [
                  (sqs [
                    (.regD [o 46 (.mov (T 9)), o 47 (.mov (T 10)), o 48 (.bin .leq (T 46) (T 47)), o 49 (.mov (T 48)), og 50 (.mov (T 0)) 49 true, og 51 (.mov (T 1)) 49 true, og 52 (.idxAddr 1 (T 50) (T 51)) 49 true, ⟨some 53, (.load false 1 (T 52)), some (49, true), 7, []⟩, og 54 (.mov (T 0)) 49 true, og 55 (.mov (T 10)) 49 true, og 56 (.idxAddr 1 (T 54) (T 55)) 49 true, ⟨some 57, (.load false 1 (T 56)), some (49, true), 11, []⟩, og 58 (.call 84 [(T 53), (T 57)]) 49 true, o 59 (.pick (T 49) (T 58) (B false))]),
                    (.cond (T 59)
                      .skip
                      (.exit 4))]),
                  (.block 5
                    (.reg [o 60 (.mov (T 10)), o 61 (.bin .sub (T 60) (I 1)), o 10 (.mov (T 61))]))]))),
            (sqs [
              (.reg [o 62 (.mov (T 9)), o 63 (.mov (T 10)), o 64 (.bin .gtr (T 62) (T 63))]),
              (.cond (T 64)
                (.exit 0)
                .skip)]),
            (.regD [o 65 (.mov (T 0)), o 66 (.mov (T 9)), o 67 (.mov (T 0)), o 68 (.mov (T 10)), o 69 (.mov (T 0)), o 70 (.mov (T 10)), o 71 (.idxAddr 1 (T 69) (T 70)), ⟨some 72, (.load false 1 (T 71)), none, 7, []⟩, o 73 (.mov (T 0)), o 74 (.mov (T 9)), o 75 (.idxAddr 1 (T 73) (T 74)), ⟨some 76, (.load false 1 (T 75)), none, 11, []⟩, o 77 (.idxAddr 1 (T 65) (T 66)), on_ (.store 1 (T 77) (T 72)), o 78 (.idxAddr 1 (T 67) (T 68)), on_ (.store 1 (T 78) (T 76))]),
            (.reg [o 79 (.mov (T 9)), o 80 (.bin .add (T 79) (I 1)), o 9 (.mov (T 80))]),
            (.reg [o 81 (.mov (T 10)), o 82 (.bin .sub (T 81) (I 1)), o 10 (.mov (T 82))])])))),
    (.reg [o 83 (.mov (T 9)), o 8 (.mov (T 83))]),
    .ret])
theorem ok85 : cfn Try.prog Try.f85 4 = some (s85, [.tmp 8]) := by kernel_rfl

/-! 86 slices.partitionOrdered[int] -/
def s86 : SCode :=
  (sqs [
    (.reg [o 8 (.mov (I 0)), o 9 (.mov (B false))]),
    (.regD [o 12 (.mov (T 0)), o 13 (.mov (T 1)), o 14 (.mov (T 0)), o 15 (.mov (T 3)), o 16 (.mov (T 0)), o 17 (.mov (T 3)), o 18 (.idxAddr 1 (T 16) (T 17)), ⟨some 19, (.load false 1 (T 18)), none, 7, []⟩, o 20 (.mov (T 0)), o 21 (.mov (T 1)), o 22 (.idxAddr 1 (T 20) (T 21)), ⟨some 23, (.load false 1 (T 22)), none, 11, []⟩, o 24 (.idxAddr 1 (T 12) (T 13)), on_ (.store 1 (T 24) (T 19)), o 25 (.idxAddr 1 (T 14) (T 15)), on_ (.store 1 (T 25) (T 23))]),
    (.reg [o 26 (.mov (T 1)), o 27 (.bin .add (T 26) (I 1)), o 28 (.mov (T 2)), o 29 (.bin .sub (T 28) (I 1)), o 10 (.mov (T 27)), o 11 (.mov (T 29))]),
    (.block 0
      (.loop
        (sqs [
          (sqs [
            (.regD [o 30 (.mov (T 10)), o 31 (.mov (T 11)), o 32 (.bin .leq (T 30) (T 31)), o 33 (.mov (T 32)), og 34 (.mov (T 0)) 33 true, og 35 (.mov (T 10)) 33 true, og 36 (.idxAddr 1 (T 34) (T 35)) 33 true, ⟨some 37, (.load false 1 (T 36)), some (33, true), 7, []⟩, og 38 (.mov (T 0)) 33 true, og 39 (.mov (T 1)) 33 true, og 40 (.idxAddr 1 (T 38) (T 39)) 33 true, ⟨some 41, (.load false 1 (T 40)), some (33, true), 11, []⟩, og 42 (.call 84 [(T 37), (T 41)]) 33 true, o 43 (.pick (T 33) (T 42) (B false))]),
            (.cond (T 43)
              .skip
              (.exit 0))]),
          (.block 1
            (.reg [o 44 (.mov (T 10)), o 45 (.bin .add (T 44) (I 1)), o 10 (.mov (T 45))]))]))),
    (.block 2
      (.loop
        (sqs [
          (sqs [
            (.regD [o 46 (.mov (T 10)), o 47 (.mov (T 11)), o 48 (.bin .leq (T 46) (T 47)), o 49 (.mov (T 48)), og 50 (.mov (T 0)) 49 true, og 51 (.mov (T 11)) 49 true, og 52 (.idxAddr 1 (T 50) (T 51)) 49 true, ⟨some 53, (.load false 1 (T 52)), some (49, true), 7, []⟩, og 54 (.mov (T 0)) 49 true, og 55 (.mov (T 1)) 49 true, og 56 (.idxAddr 1 (T 54) (T 55)) 49 true, ⟨some 57, (.load false 1 (T 56)), some (49, true), 11, []⟩, og 58 (.call 84 [(T 53), (T 57)]) 49 true, og 59 (.not (T 58)) 49 true, o 60 (.pick (T 49) (T 59) (B false))]),
            (.cond (T 60)
              .skip
              (.exit 2))]),
          (.block 3
            (.reg [o 61 (.mov (T 11)), o 62 (.bin .sub (T 61) (I 1)), o 11 (.mov (T 62))]))]))),
    (sqs [
      (.reg [o 63 (.mov (T 10)), o 64 (.mov (T 11)), o 65 (.bin .gtr (T 63) (T 64))]),
      (.cond (T 65)
        (sqs [
          (.regD [o 66 (.mov (T 0)), o 67 (.mov (T 11)), o 68 (.mov (T 0)), o 69 (.mov (T 1)), o 70 (.mov (T 0)), o 71 (.mov (T 1)), o 72 (.idxAddr 1 (T 70) (T 71)), ⟨some 73, (.load false 1 (T 72)), none, 7, []⟩, o 74 (.mov (T 0)), o 75 (.mov (T 11)), o 76 (.idxAddr 1 (T 74) (T 75)), ⟨some 77, (.load false 1 (T 76)), none, 11, []⟩, o 78 (.idxAddr 1 (T 66) (T 67)), on_ (.store 1 (T 78) (T 73)), o 79 (.idxAddr 1 (T 68) (T 69)), on_ (.store 1 (T 79) (T 77))]),
          (.reg [o 80 (.mov (T 11)), o 8 (.mov (T 80)), o 9 (.mov (B true))]),
          .ret])
        .skip)]),
    (.regD [o 81 (.mov (T 0)), o 82 (.mov (T 10)), o 83 (.mov (T 0)), o 84 (.mov (T 11)), o 85 (.mov (T 0)), o 86 (.mov (T 11)), o 87 (.idxAddr 1 (T 85) (T 86)), ⟨some 88, (.load false 1 (T 87)), none, 7, []⟩, o 89 (.mov (T 0)), o 90 (.mov (T 10)), o 91 (.idxAddr 1 (T 89) (T 90)), ⟨some 92, (.load false 1 (T 91)), none, 11, []⟩, o 93 (.idxAddr 1 (T 81) (T 82)), on_ (.store 1 (T 93) (T 88)), o 94 (.idxAddr 1 (T 83) (T 84)), on_ (.store 1 (T 94) (T 92))]),
    (.reg [o 95 (.mov (T 10)), o 96 (.bin .add (T 95) (I 1)), o 10 (.mov (T 96))]),
    (.reg [o 97 (.mov (T 11)), o 98 (.bin .sub (T 97) (I 1)), o 11 (.mov (T 98))]),
    (.block 4
      (.loop
        (.block 5
          (sqs [
            (.block 6
              (.loop
                (sqs [
                  (sqs [
                    (.regD [o 99 (.mov (T 10)), o 100 (.mov (T 11)), o 101 (.bin .leq (T 99) (T 100)), o 102 (.mov (T 101)), og 103 (.mov (T 0)) 102 true, og 104 (.mov (T 10)) 102 true, og 105 (.idxAddr 1 (T 103) (T 104)) 102 true, ⟨some 106, (.load false 1 (T 105)), some (102, true), 7, []⟩, og 107 (.mov (T 0)) 102 true, og 108 (.mov (T 1)) 102 true, og 109 (.idxAddr 1 (T 107) (T 108)) 102 true, ⟨some 110, (.load false 1 (T 109)), some (102, true), 11, []⟩, og 111 (.call 84 [(T 106), (T 110)]) 102 true, o 112 (.pick (T 102) (T 111) (B false))]),
                    (.cond (T 112)
                      .skip
                      (.exit 6))]),
                  (.block 7
                    (.reg [o 113 (.mov (T 10)), o 114 (.bin .add (T 113) (I 1)), o 10 (.mov (T 114))]))]))),
            (.block 8
              (.loop
                (sqs [
                  (sqs [
                    (.regD [o 115 (.mov (T 10)), o 116 (.mov (T 11)), o 117 (.bin .leq (T 115) (T 116)), o 118 (.mov (T 117)), og 119 (.mov (T 0)) 118 true, og 120 (.mov (T 11)) 118 true, og 121 (.idxAddr 1 (T 119) (T 120)) 118 true, ⟨some 122, (.load false 1 (T 121)), some (118, true), 7, []⟩, og 123 (.mov (T 0)) 118 true, og 124 (.mov (T 1)) 118 true, og 125 (.idxAddr 1 (T 123) (T 124)) 118 true, ⟨some 126, (.load false 1 (T 125)), some (118, true), 11, []⟩, og 127 (.call 84 [(T 122), (T 126)]) 118 true, og 128 (.not (T 127)) 118 true, o 129 (.pick (T 118) (T 128) (B false))]),
                    (.cond (T 129)
                      .skip
                      (.exit 8))]),
                  (.block 9
                    (.reg [o 130 (.mov (T 11)), o 131 (.bin .sub (T 130) (I 1)), o 11 (.mov (T 131))]))]))),
            (sqs [
              (.reg [o 132 (.mov (T 10)), o 133 (.mov (T 11)), o 134 (.bin .gtr (T 132) (T 133))]),
              (.cond (T 134)
                (.exit 4)
                .skip)]),
            (.regD [o 135 (.mov (T 0)), o 136 (.mov (T 10)), o 137 (.mov (T 0)), o 138 (.mov (T 11)), o 139 (.mov (T 0)), o 140 (.mov (T 11)), o 141 (.idxAddr 1 (T 139) (T 140)), ⟨some 142, (.load false 1 (T 141)), none, 7, []⟩, o 143 (.mov (T 0)), o 144 (.mov (T 10)), o 145 (.idxAddr 1 (T 143) (T 144)), ⟨some 146, (.load false 1 (T 145)), none, 11, []⟩, o 147 (.idxAddr 1 (T 135) (T 136)), on_ (.store 1 (T 147) (T 142)), o 148 (.idxAddr 1 (T 137) (T 138)), on_ (.store 1 (T 148) (T 146))]),
            (.reg [o 149 (.mov (T 10)), o 150 (.bin .add (T 149) (I 1)), o 10 (.mov (T 150))]),
            (.reg [o 151 (.mov (T 11)), o 152 (.bin .sub (T 151) (I 1)), o 11 (.mov (T 152))])])))),
    (.regD [o 153 (.mov (T 0)), o 154 (.mov (T 11)), o 155 (.mov (T 0)), o 156 (.mov (T 1)), o 157 (.mov (T 0)), o 158 (.mov (T 1)), o 159 (.idxAddr 1 (T 157) (T 158)), ⟨some 160, (.load false 1 (T 159)), none, 7, []⟩, o 161 (.mov (T 0)), o 162 (.mov (T 11)), o 163 (.idxAddr 1 (T 161) (T 162)), ⟨some 164, (.load false 1 (T 163)), none, 11, []⟩, o 165 (.idxAddr 1 (T 153) (T 154)), on_ (.store 1 (T 165) (T 160)), o 166 (.idxAddr 1 (T 155) (T 156)), on_ (.store 1 (T 166) (T 164))]),
    (.reg [o 167 (.mov (T 11)), o 8 (.mov (T 167)), o 9 (.mov (B false))]),
    .ret])
theorem ok86 : cfn Try.prog Try.f86 4 = some (s86, [.tmp 8, .tmp 9]) := by kernel_rfl

/-! 89 slices.ContainsFunc[[]int,int] -/
def s89 : SCode :=
  (sqs [
    (.reg [o 4 (.mov (B false))]),
    (.reg [o 5 (.mov (T 0)), o 6 (.mov (T 1)), o 7 (.call 99 [(T 5), (T 6)]), o 8 (.bin .geq (T 7) (I 0)), o 4 (.mov (T 8))]),
    .ret])
theorem ok89 : cfn Try.prog Try.f89 2 = some (s89, [.tmp 4]) := by kernel_rfl

/-! 90 impl.areValues$1 -/
def s90 : SCode :=
  (sqs [
    (.reg [o 2 (.mov (B false))]),
    (.reg [o 3 (.mov (T 0)), o 4 (.call 91 [(T 3)]), o 5 (.not (T 4)), o 2 (.mov (T 5))]),
    .ret])
theorem ok90 : cfn Try.prog Try.f90 1 = some (s90, [.tmp 2]) := by kernel_rfl

/-! 91 impl.IsValue -/
def s91 : SCode :=
  (sqs [
    (.reg [o 2 (.mov (B false))]),
    (.reg [o 3 (.mov (T 0)), o 4 (.call 34 [(T 3), (I (-1000000)), (I 1000000)]), o 2 (.mov (T 4))]),
    .ret])
theorem ok91 : cfn Try.prog Try.f91 1 = some (s91, [.tmp 2]) := by kernel_rfl

/-! 92 impl.Clamp -/
def s92 : SCode :=
  (sqs [
    (.reg [o 6 (.mov (I 0))]),
    (sqs [
      (.reg [o 7 (.mov (T 2)), o 8 (.mov (T 1)), o 9 (.bin .lss (T 7) (T 8))]),
      (.cond (T 9)
        (sqs [
          (.reg [o 10 (.mov (T 1)), o 6 (.mov (T 10))]),
          .ret])
        .skip)]),
    (.reg [o 11 (.mov (T 0)), o 12 (.mov (T 1)), o 13 (.max (T 11) (T 12)), o 14 (.mov (T 2)), o 15 (.min (T 13) (T 14)), o 6 (.mov (T 15))]),
    .ret])
theorem ok92 : cfn Try.prog Try.f92 3 = some (s92, [.tmp 6]) := by kernel_rfl

/-! 93 slices.siftDownOrdered[int] -/
def s93 : SCode :=
  (sqs [
    (.reg [o 10 (.mov (T 1)), o 8 (.mov (T 10))]),
    (.block 0
      (.loop
        (.block 1
          (sqs [
            (.reg [o 11 (.mov (T 8)), o 12 (.bin .mul (I 2) (T 11)), o 13 (.bin .add (T 12) (I 1)), o 9 (.mov (T 13))]),
            (sqs [
              (.reg [o 14 (.mov (T 9)), o 15 (.mov (T 2)), o 16 (.bin .geq (T 14) (T 15))]),
              (.cond (T 16)
                (.exit 0)
                .skip)]),
            (sqs [
              (.regD [o 17 (.mov (T 9)), o 18 (.bin .add (T 17) (I 1)), o 19 (.mov (T 2)), o 20 (.bin .lss (T 18) (T 19)), o 21 (.mov (T 20)), og 22 (.mov (T 0)) 21 true, og 23 (.mov (T 3)) 21 true, og 24 (.mov (T 9)) 21 true, og 25 (.bin .add (T 23) (T 24)) 21 true, og 26 (.idxAddr 1 (T 22) (T 25)) 21 true, ⟨some 27, (.load false 1 (T 26)), some (21, true), 10, []⟩, og 28 (.mov (T 0)) 21 true, og 29 (.mov (T 3)) 21 true, og 30 (.mov (T 9)) 21 true, og 31 (.bin .add (T 29) (T 30)) 21 true, og 32 (.bin .add (T 31) (I 1)) 21 true, og 33 (.idxAddr 1 (T 28) (T 32)) 21 true, ⟨some 34, (.load false 1 (T 33)), some (21, true), 17, []⟩, og 35 (.call 84 [(T 27), (T 34)]) 21 true, o 36 (.pick (T 21) (T 35) (B false))]),
              (.cond (T 36)
                (.reg [o 37 (.mov (T 9)), o 38 (.bin .add (T 37) (I 1)), o 9 (.mov (T 38))])
                .skip)]),
            (sqs [
              (.regD [o 39 (.mov (T 0)), o 40 (.mov (T 3)), o 41 (.mov (T 8)), o 42 (.bin .add (T 40) (T 41)), o 43 (.idxAddr 1 (T 39) (T 42)), ⟨some 44, (.load false 1 (T 43)), none, 5, []⟩, o 45 (.mov (T 0)), o 46 (.mov (T 3)), o 47 (.mov (T 9)), o 48 (.bin .add (T 46) (T 47)), o 49 (.idxAddr 1 (T 45) (T 48)), ⟨some 50, (.load false 1 (T 49)), none, 11, []⟩, o 51 (.call 84 [(T 44), (T 50)]), o 52 (.not (T 51))]),
              (.cond (T 52)
                .ret
                .skip)]),
            (.regD [o 53 (.mov (T 0)), o 54 (.mov (T 3)), o 55 (.mov (T 8)), o 56 (.bin .add (T 54) (T 55)), o 57 (.mov (T 0)), o 58 (.mov (T 3)), o 59 (.mov (T 9)), o 60 (.bin .add (T 58) (T 59)), o 61 (.mov (T 0)), o 62 (.mov (T 3)), o 63 (.mov (T 9)), o 64 (.bin .add (T 62) (T 63)), o 65 (.idxAddr 1 (T 61) (T 64)), ⟨some 66, (.load false 1 (T 65)), none, 13, []⟩, o 67 (.mov (T 0)), o 68 (.mov (T 3)), o 69 (.mov (T 8)), o 70 (.bin .add (T 68) (T 69)), o 71 (.idxAddr 1 (T 67) (T 70)), ⟨some 72, (.load false 1 (T 71)), none, 19, []⟩, o 73 (.idxAddr 1 (T 53) (T 56)), on_ (.store 1 (T 73) (T 66)), o 74 (.idxAddr 1 (T 57) (T 60)), on_ (.store 1 (T 74) (T 72))]),
            (.reg [o 75 (.mov (T 9)), o 8 (.mov (T 75))])]))))])
theorem ok93 : cfn Try.prog Try.f93 4 = some (s93, []) := by kernel_rfl

/-! 94 slices.nextPowerOfTwo -/
def s94 : SCode :=
  (sqs [
    (.reg [o 2 (.mov (.val (.int .u64 0)))]),
    (.reg [o 3 (.mov (T 0)), o 4 (.conv .u64 (T 3)), o 5 (.call 74 [(T 4)]), o 6 (.bin .shl (.val (.int .u64 1)) (T 5)), o 2 (.mov (T 6))]),
    .ret])
theorem ok94 : cfn Try.prog Try.f94 1 = some (s94, [.tmp 2]) := by kernel_rfl

/-! 95 (*slices.xorshift).Next -/
def s95 : SCode :=
  (sqs [
    (.reg [o 2 (.mov (.val (.int .u64 0)))]),
    (.regD [o 3 (.mov (T 0)), o 4 (.nilchk (T 3)), ⟨some 5, (.load false 1 (T 4)), none, 2, []⟩, o 6 (.mov (T 0)), o 7 (.nilchk (T 6)), ⟨some 8, (.load false 1 (T 7)), none, 5, []⟩, o 9 (.bin .shl (T 8) (.val (.int .u64 13))), o 10 (.bin .xor (T 5) (T 9)), o 11 (.nilchk (T 3)), on_ (.store 1 (T 11) (T 10))]),
    (.regD [o 12 (.mov (T 0)), o 13 (.nilchk (T 12)), ⟨some 14, (.load false 1 (T 13)), none, 2, []⟩, o 15 (.mov (T 0)), o 16 (.nilchk (T 15)), ⟨some 17, (.load false 1 (T 16)), none, 5, []⟩, o 18 (.bin .shr (T 17) (.val (.int .u64 7))), o 19 (.bin .xor (T 14) (T 18)), o 20 (.nilchk (T 12)), on_ (.store 1 (T 20) (T 19))]),
    (.regD [o 21 (.mov (T 0)), o 22 (.nilchk (T 21)), ⟨some 23, (.load false 1 (T 22)), none, 2, []⟩, o 24 (.mov (T 0)), o 25 (.nilchk (T 24)), ⟨some 26, (.load false 1 (T 25)), none, 5, []⟩, o 27 (.bin .shl (T 26) (.val (.int .u64 17))), o 28 (.bin .xor (T 23) (T 27)), o 29 (.nilchk (T 21)), on_ (.store 1 (T 29) (T 28))]),
    (.reg [o 30 (.mov (T 0)), o 31 (.nilchk (T 30)), o 32 (.load false 1 (T 31)), o 2 (.mov (T 32))]),
    .ret])
theorem ok95 : cfn Try.prog Try.f95 1 = some (s95, [.tmp 2]) := by kernel_rfl

/-! 96 slices.medianAdjacentOrdered[int] -/
def s96 : SCode :=
  (sqs [
    (.reg [o 6 (.mov (I 0))]),
    (.reg [o 7 (.mov (T 0)), o 8 (.mov (T 1)), o 9 (.bin .sub (T 8) (I 1)), o 10 (.mov (T 1)), o 11 (.mov (T 1)), o 12 (.bin .add (T 11) (I 1)), o 13 (.mov (T 2)), o 14 (.call 97 [(T 7), (T 9), (T 10), (T 12), (T 13)]), o 6 (.mov (T 14))]),
    .ret])
theorem ok96 : cfn Try.prog Try.f96 3 = some (s96, [.tmp 6]) := by kernel_rfl

/-! 97 slices.medianOrdered[int] -/
def s97 : SCode :=
  (sqs [
    (.reg [o 10 (.mov (I 0))]),
    (.reg [o 12 (.mov (T 0)), o 13 (.mov (T 1)), o 14 (.mov (T 2)), o 15 (.mov (T 4)), o 16 (.call 100 [(T 12), (T 13), (T 14), (T 15)]), o 11 (.mov (T 16)), o 17 (.ext 0 (T 11)), o 18 (.ext 1 (T 11)), o 1 (.mov (T 17)), o 2 (.mov (T 18))]),
    (.reg [o 20 (.mov (T 0)), o 21 (.mov (T 2)), o 22 (.mov (T 3)), o 23 (.mov (T 4)), o 24 (.call 100 [(T 20), (T 21), (T 22), (T 23)]), o 19 (.mov (T 24)), o 25 (.ext 0 (T 19)), o 26 (.ext 1 (T 19)), o 2 (.mov (T 25)), o 3 (.mov (T 26))]),
    (.reg [o 28 (.mov (T 0)), o 29 (.mov (T 1)), o 30 (.mov (T 2)), o 31 (.mov (T 4)), o 32 (.call 100 [(T 28), (T 29), (T 30), (T 31)]), o 27 (.mov (T 32)), o 33 (.ext 0 (T 27)), o 34 (.ext 1 (T 27)), o 1 (.mov (T 33)), o 2 (.mov (T 34))]),
    (.reg [o 35 (.mov (T 2)), o 10 (.mov (T 35))]),
    .ret])
theorem ok97 : cfn Try.prog Try.f97 5 = some (s97, [.tmp 10]) := by kernel_rfl

/-! 98 cmp.isNaN[int] -/
def s98 : SCode :=
  (sqs [
    (.reg [o 2 (.mov (B false))]),
    (.reg [o 3 (.mov (T 0)), o 4 (.mov (T 0)), o 5 (.bin .neq (T 3) (T 4)), o 2 (.mov (T 5))]),
    .ret])
theorem ok98 : cfn Try.prog Try.f98 1 = some (s98, [.tmp 2]) := by kernel_rfl

/-! 99 slices.IndexFunc[[]int,int] -/
def s99 : SCode :=
  (sqs [
    (.reg [o 4 (.mov (I 0))]),
    (sqs [
      (.reg [o 6 (.mov (T 0)), o 7 (.len (T 6)), o 8 (.mov (I 0))]),
      (.block 0
        (.loop
          (sqs [
            (.reg [o 9 (.bin .lss (T 8) (T 7))]),
            (.cond (T 9)
              .skip
              (.exit 0)),
            (.block 1
              (sqs [
                (.reg [o 10 (.mov (T 8)), o 5 (.mov (T 10))]),
                (.reg [o 11 (.mov (T 1)), o 12 (.mov (T 0)), o 13 (.mov (T 5)), o 14 (.idxAddr 1 (T 12) (T 13)), o 15 (.load false 1 (T 14)), o 16 (.callv (T 11) [(T 15)])]),
                (.cond (T 16)
                  (sqs [
                    (.reg [o 17 (.mov (T 5)), o 4 (.mov (T 17))]),
                    .ret])
                  .skip)])),
            (.reg [o 18 (.bin .add (T 8) (I 1)), o 8 (.mov (T 18))])])))]),
    (.reg [o 4 (.mov (I (-1)))]),
    .ret])
theorem ok99 : cfn Try.prog Try.f99 2 = some (s99, [.tmp 4]) := by kernel_rfl

/-! 100 slices.order2Ordered[int] -/
def s100 : SCode :=
  (sqs [
    (.reg [o 8 (.mov (I 0)), o 9 (.mov (I 0))]),
    (sqs [
      (.regD [o 10 (.mov (T 0)), o 11 (.mov (T 2)), o 12 (.idxAddr 1 (T 10) (T 11)), ⟨some 13, (.load false 1 (T 12)), none, 3, []⟩, o 14 (.mov (T 0)), o 15 (.mov (T 1)), o 16 (.idxAddr 1 (T 14) (T 15)), ⟨some 17, (.load false 1 (T 16)), none, 7, []⟩, o 18 (.call 84 [(T 13), (T 17)])]),
      (.cond (T 18)
        (sqs [
          (.reg [o 19 (.mov (T 3)), o 20 (.nilchk (T 19)), o 21 (.load false 1 (T 20)), o 22 (.bin .add (T 21) (I 1)), o 23 (.nilchk (T 19)), on_ (.store 1 (T 23) (T 22))]),
          (.reg [o 24 (.mov (T 2)), o 25 (.mov (T 1)), o 8 (.mov (T 24)), o 9 (.mov (T 25))]),
          .ret])
        .skip)]),
    (.reg [o 26 (.mov (T 1)), o 27 (.mov (T 2)), o 8 (.mov (T 26)), o 9 (.mov (T 27))]),
    .ret])
theorem ok100 : cfn Try.prog Try.f100 4 = some (s100, [.tmp 8, .tmp 9]) := by kernel_rfl

/-! 101 (runtime.boundsError).Error -/
-- NOT TOLD 101
/-! 102 (runtime.boundsError).RuntimeError -/
-- NOT TOLD 102
/-! 103 (runtime.errorString).Error -/
-- NOT TOLD 103
/-! 104 (runtime.errorString).RuntimeError -/
-- NOT TOLD 104
/-! 105 (runtime.plainError).Error -/
-- NOT TOLD 105
/-! 106 (runtime.plainError).RuntimeError -/
-- NOT TOLD 106
/-! 107 (runtime.errorAddressString).Error -/
-- NOT TOLD 107
/-! 108 (runtime.errorAddressString).RuntimeError -/
-- NOT TOLD 108
/-! 109 (*runtime.TypeAssertionError).Error -/
-- NOT TOLD 109
/-! 110 (*runtime.TypeAssertionError).RuntimeError -/
-- NOT TOLD 110
/-! 111 (*runtime.PanicNilError).Error -/
-- NOT TOLD 111
/-! 112 (*runtime.PanicNilError).RuntimeError -/
-- NOT TOLD 112
/-! 113 (*internal/abi.Type).Align -/
-- NOT TOLD 113
/-! 114 (internal/runtime/maps.unhashableTypeError).Error -/
-- NOT TOLD 114
/-! 115 (internal/runtime/maps.unhashableTypeError).RuntimeError -/
-- NOT TOLD 115
/-! 116 (internal/abi.Kind).String -/
-- NOT TOLD 116
end Go.Av

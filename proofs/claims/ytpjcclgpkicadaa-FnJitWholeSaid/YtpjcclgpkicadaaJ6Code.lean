import Derived.Test.YtpjcclgpkicadaaAv23
import Derived.Test.YtpjcclgpkicadaaProg
namespace Go.Av
open Go.Proofs
set_option linter.unusedVariables false
set_option maxRecDepth 1000000
/-! 3 laws.FnSums -/
def s3 : SCode :=
  (sqs [
    (.reg [o 2 (.mov (B false))]),
    (sqs [
      (.reg [o 9 (.mov (T 0)), o 10 (.call 12 [(T 9)])]),
      (.cond (T 10)
        (sqs [
          (.reg [o 2 (.mov (B true))]),
          .ret])
        .skip)]),
    (.reg [o 12 (.mov (T 0)), o 13 (.call 13 [(T 12)]), o 11 (.mov (T 13)), o 14 (.ext 0 (T 11)), o 15 (.ext 1 (T 11)), o 3 (.hole 6), o 3 (.birth 6 (T 3) (T 14)), o 4 (.mov (T 15))]),
    (.reg [o 16 (.mov (T 0)), o 17 (.call 14 [(T 16)]), o 5 (.mov (T 17))]),
    (.reg [o 18 (.mov (T 5)), o 19 (.idxAddr 1 (T 18) (I 0)), o 20 (.load false 1 (T 19)), o 21 (.bin .rem (T 20) (I 6)), o 6 (.mov (T 21))]),
    (.reg [o 22 (.lit 0 1 [(.int .i64 0)] []), o 23 (.mov (T 4)), o 24 (.append 1 8 (T 22) (T 23)), o 7 (.mov (T 24))]),
    (.regD [o 25 (.mov (T 7)), o 26 (.mov (T 6)), o 27 (.mov (T 7)), o 28 (.mov (T 6)), o 29 (.idxAddr 1 (T 27) (T 28)), ⟨some 30, (.load false 1 (T 29)), none, 5, []⟩, o 31 (.bin .add (T 30) (I 1)), o 32 (.mov (T 5)), o 33 (.idxAddr 1 (T 32) (I 1)), ⟨some 34, (.load false 1 (T 33)), none, 9, []⟩, o 35 (.bin .add (T 31) (T 34)), o 36 (.idxAddr 1 (T 25) (T 26)), on_ (.store 1 (T 36) (T 35))]),
    (.reg [o 37 (.mov (T 5)), o 38 (.idxAddr 1 (T 37) (I 2)), o 39 (.load false 1 (T 38)), o 40 (.mov (T 4)), o 41 (.call 15 [(T 39), (T 40)]), o 8 (.mov (T 41))]),
    (.reg [o 42 (.mov (T 8)), o 43 (.bin .geq (T 42) (I 0)), o 44 (.mov (T 43)), og 45 (.mov (T 8)) 44 true, og 46 (.mov (T 5)) 44 true, og 47 (.idxAddr 1 (T 46) (I 2)) 44 true, og 48 (.load false 1 (T 47)) 44 true, og 49 (.mov (T 7)) 44 true, og 50 (.call 15 [(T 48), (T 49)]) 44 true, og 51 (.bin .neq (T 45) (T 50)) 44 true, o 52 (.pick (T 44) (T 51) (B false)), o 53 (.mov (T 52)), og 54 (.mov (T 8)) 53 true, og 55 (.mov (T 5)) 53 true, og 56 (.idxAddr 1 (T 55) (I 2)) 53 true, og 57 (.load false 1 (T 56)) 53 true, og 58 (.bin .add (T 57) (I 1)) 53 true, og 59 (.mov (T 4)) 53 true, og 60 (.call 15 [(T 58), (T 59)]) 53 true, og 61 (.bin .neq (T 54) (T 60)) 53 true, o 62 (.pick (T 53) (T 61) (B false)), o 2 (.mov (T 62))]),
    .ret])
theorem ok3 : cfn Try.prog Try.f3 1 = some (s3, [.tmp 2]) := by kernel_rfl

/-! 4 laws.FnExactCommitsAtLeast -/
def s4 : SCode :=
  (sqs [
    (.reg [o 2 (.box 4 (T 0)), o 4 (.mov (B false))]),
    (sqs [
      (.reg [o 8 (.mov (T 1)), o 9 (.len (T 8)), o 10 (.bin .gtr (T 9) (I 1048576))]),
      (.cond (T 10)
        (sqs [
          (.reg [o 4 (.mov (B true))]),
          .ret])
        .skip)]),
    (.reg [o 11 (.load true 4 (T 2)), o 12 (.call 17 [(T 11)]), o 13 (.mov (T 1)), o 14 (.call 18 [(T 13)]), o 15 (.call 16 [(T 12), (T 14)]), o 5 (.mov (T 15))]),
    (.reg [o 16 (.mov (T 1)), o 17 (.call 18 [(T 16)]), o 6 (.mov (T 17))]),
    (.reg [o 18 (.load true 4 (T 2)), o 19 (.call 17 [(T 18)]), o 20 (.mov (T 6)), o 21 (.call 19 [(T 19), (T 20)]), o 7 (.mov (T 21))]),
    (sqs [
      (.reg [o 22 (.mov (T 7)), o 23 (.mov (T 5)), o 24 (.bin .neq (T 22) (T 23))]),
      (.cond (T 24)
        (sqs [
          (.reg [o 4 (.mov (B false))]),
          .ret])
        .skip)]),
    (sqs [
      (.reg [o 25 (.mov (T 6)), o 26 (.mov (T 1)), o 27 (.call 18 [(T 26)]), o 28 (.call 20 [(T 25), (T 27)]), o 29 (.not (T 28))]),
      (.cond (T 29)
        (sqs [
          (.reg [o 4 (.mov (B false))]),
          .ret])
        .skip)]),
    (.reg [o 4 (.mov (B true))]),
    .ret])
theorem ok4 : cfn Try.prog Try.f4 2 = some (s4, [.tmp 4]) := by kernel_rfl

/-! 5 laws.FnTornSaves -/
def s5 : SCode :=
  (sqs [
    (.reg [o 2 (.mov (B false))]),
    (sqs [
      (.reg [o 16 (.mov (T 0)), o 17 (.call 12 [(T 16)])]),
      (.cond (T 17)
        (sqs [
          (.reg [o 2 (.mov (B true))]),
          .ret])
        .skip)]),
    (.reg [o 19 (.mov (T 0)), o 20 (.call 13 [(T 19)]), o 18 (.mov (T 20)), o 21 (.ext 0 (T 18)), o 22 (.ext 1 (T 18)), o 3 (.hole 6), o 3 (.birth 6 (T 3) (T 21)), o 4 (.mov (T 22))]),
    (.reg [o 23 (.mov (T 0)), o 24 (.call 14 [(T 23)]), o 5 (.mov (T 24))]),
    (.reg [o 26 (.load true 6 (T 3)), o 27 (.call 21 [(T 26)]), o 25 (.mov (T 27)), o 28 (.ext 0 (T 25)), o 29 (.ext 1 (T 25)), o 6 (.hole 3), o 6 (.birth 3 (T 6) (T 28)), o 7 (.mov (T 29))]),
    (.reg [o 30 (.mov (T 5)), o 31 (.idxAddr 1 (T 30) (I 0)), o 32 (.load false 1 (T 31)), o 33 (.bin .rem (T 32) (I 11)), o 8 (.mov (T 33))]),
    (.reg [o 35 (.load true 6 (T 3)), o 36 (.mov (T 4)), o 37 (.mov (T 8)), o 38 (.call 22 [(T 35), (T 36), (T 37)]), o 34 (.mov (T 38)), o 39 (.ext 0 (T 34)), o 40 (.ext 1 (T 34)), o 9 (.hole 6), o 9 (.birth 6 (T 9) (T 39)), o 10 (.mov (T 40))]),
    (.reg [o 42 (.load true 6 (T 9)), o 43 (.call 21 [(T 42)]), o 41 (.mov (T 43)), o 44 (.ext 0 (T 41)), o 45 (.ext 1 (T 41)), o 11 (.hole 3), o 11 (.birth 3 (T 11) (T 44)), o 12 (.mov (T 45))]),
    (.reg [o 47 (.load true 6 (T 3)), o 48 (.mov (T 4)), o 49 (.call 23 [(T 47), (T 48)]), o 46 (.mov (T 49)), o 50 (.ext 0 (T 46)), o 51 (.ext 1 (T 46)), o 52 (.ext 2 (T 46)), o 13 (.mov (T 50)), o 14 (.mov (T 51)), o 15 (.mov (T 52))]),
    (sqs [
      (.reg [o 53 (.mov (T 10)), o 54 (.not (T 53)), o 55 (.mov (T 54)), og 56 (.mov (T 15)) 55 false, og 57 (.not (T 56)) 55 false, o 58 (.pick (T 55) (B true) (T 57)), o 59 (.mov (T 58)), og 60 (.mov (T 13)) 59 false, og 61 (.len (T 60)) 59 false, og 62 (.bin .neq (T 61) (I 9)) 59 false, o 63 (.pick (T 59) (B true) (T 62))]),
      (.cond (T 63)
        (sqs [
          (.reg [o 2 (.mov (B false))]),
          .ret])
        .skip)]),
    (sqs [
      (.reg [o 64 (.mov (T 8)), o 65 (.mov (T 13)), o 66 (.len (T 65)), o 67 (.bin .geq (T 64) (T 66))]),
      (.cond (T 67)
        (sqs [
          (.reg [o 68 (.mov (T 12)), o 69 (.mov (T 68)), og 70 (.fieldAddr 1 (T 11)) 69 true, og 71 (.load false 1 (T 70)) 69 true, og 72 (.mov (T 4)) 69 true, og 73 (.call 24 [(T 71), (T 72)]) 69 true, o 74 (.pick (T 69) (T 73) (B false)), o 75 (.mov (T 74)), og 76 (.fieldAddr 0 (T 11)) 75 true, og 77 (.load false 1 (T 76)) 75 true, og 78 (.fieldAddr 0 (T 6)) 75 true, og 79 (.load false 1 (T 78)) 75 true, og 80 (.bin .add (T 79) (I 1)) 75 true, og 81 (.bin .eql (T 77) (T 80)) 75 true, o 82 (.pick (T 75) (T 81) (B false)), o 2 (.mov (T 82))]),
          .ret])
        .skip)]),
    (.reg [o 83 (.mov (T 12)), o 84 (.mov (T 7)), o 85 (.beq false (T 83) (T 84)), o 86 (.mov (T 85)), og 87 (.fieldAddr 0 (T 11)) 86 true, og 88 (.load false 1 (T 87)) 86 true, og 89 (.fieldAddr 0 (T 6)) 86 true, og 90 (.load false 1 (T 89)) 86 true, og 91 (.bin .eql (T 88) (T 90)) 86 true, o 92 (.pick (T 86) (T 91) (B false)), o 93 (.mov (T 92)), og 94 (.fieldAddr 1 (T 11)) 93 true, og 95 (.load false 1 (T 94)) 93 true, og 96 (.fieldAddr 1 (T 6)) 93 true, og 97 (.load false 1 (T 96)) 93 true, og 98 (.call 24 [(T 95), (T 97)]) 93 true, o 99 (.pick (T 93) (T 98) (B false)), o 2 (.mov (T 99))]),
    .ret])
theorem ok5 : cfn Try.prog Try.f5 1 = some (s5, [.tmp 2]) := by kernel_rfl

/-! 6 laws.FnJitWhole -/
def s6 : SCode :=
  (sqs [
    (.reg [o 2 (.mov (B false))]),
    (sqs [
      (.reg [o 13 (.mov (T 0)), o 14 (.call 12 [(T 13)])]),
      (.cond (T 14)
        (sqs [
          (.reg [o 2 (.mov (B true))]),
          .ret])
        .skip)]),
    (.reg [o 16 (.mov (T 0)), o 17 (.call 25 [(T 16)]), o 15 (.mov (T 17)), o 18 (.ext 0 (T 15)), o 19 (.ext 1 (T 15)), o 3 (.mov (T 18)), o 4 (.mov (T 19))]),
    (.reg [o 5 (.mov (I 0))]),
    (.reg [o 20 (.lit 0 2 [(.int .i64 0), (.int .i64 0)] []), o 6 (.mov (T 20))]),
    (sqs [
      (.reg [o 7 (.mov (I 0))]),
      (.block 0
        (.loop
          (sqs [
            (sqs [
              (.reg [o 21 (.mov (T 7)), o 22 (.mov (T 4)), o 23 (.len (T 22)), o 24 (.bin .lss (T 21) (T 23))]),
              (.cond (T 24)
                .skip
                (.exit 0))]),
            (.block 1
              (sqs [
                (.reg [o 27 (.mov (T 6)), o 28 (.mov (T 4)), o 29 (.mov (T 7)), o 30 (.idxAddr 2 (T 28) (T 29)), o 31 (.fieldAddr 0 (T 30)), o 32 (.load false 1 (T 31)), o 33 (.build [(.int .i64 0), (.int .i64 0)] [(0, 1, (T 32)), (1, 1, (I 9))]), o 34 (.lit 1 2 [(.int .i64 0), (.int .i64 0)] [(0, (T 33))]), o 35 (.append 2 16 (T 27) (T 34)), o 6 (.mov (T 35))]),
                (.reg [o 36 (.mov (T 5)), o 37 (.mov (T 4)), o 38 (.mov (T 7)), o 39 (.idxAddr 2 (T 37) (T 38)), o 40 (.fieldAddr 0 (T 39)), o 41 (.load false 1 (T 40)), o 42 (.bin .add (T 36) (T 41)), o 5 (.mov (T 42))])])),
            (.reg [o 25 (.mov (T 7)), o 26 (.bin .add (T 25) (I 1)), o 7 (.mov (T 26))])])))]),
    (.reg [o 44 (.mov (T 3)), o 45 (.mov (T 6)), o 46 (.call 26 [(T 44), (T 45)]), o 43 (.mov (T 46)), o 47 (.ext 0 (T 43)), o 48 (.ext 1 (T 43)), o 49 (.ext 2 (T 43)), o 8 (.hole 6), o 8 (.birth 6 (T 8) (T 47)), o 9 (.mov (T 48)), o 10 (.mov (T 49))]),
    (.reg [o 51 (.mov (T 3)), o 52 (.mov (T 5)), o 53 (.call 27 [(T 51), (T 52)]), o 50 (.mov (T 53)), o 54 (.ext 0 (T 50)), o 55 (.ext 1 (T 50)), o 11 (.mov (T 54)), o 12 (.mov (T 55))]),
    (.reg [o 56 (.mov (T 10)), o 57 (.mov (T 56)), og 58 (.mov (T 12)) 57 true, o 59 (.pick (T 57) (T 58) (B false)), o 60 (.mov (T 59)), og 61 (.mov (T 9)) 60 true, og 62 (.mov (T 11)) 60 true, og 63 (.call 24 [(T 61), (T 62)]) 60 true, o 64 (.pick (T 60) (T 63) (B false)), o 2 (.mov (T 64))]),
    .ret])
theorem ok6 : cfn Try.prog Try.f6 1 = some (s6, [.tmp 2]) := by kernel_rfl

/-! 7 laws.FnJit -/
def s7 : SCode :=
  (sqs [
    (.reg [o 2 (.mov (B false))]),
    (sqs [
      (.reg [o 14 (.mov (T 0)), o 15 (.call 12 [(T 14)])]),
      (.cond (T 15)
        (sqs [
          (.reg [o 2 (.mov (B true))]),
          .ret])
        .skip)]),
    (.reg [o 17 (.mov (T 0)), o 18 (.call 25 [(T 17)]), o 16 (.mov (T 18)), o 19 (.ext 0 (T 16)), o 20 (.ext 1 (T 16)), o 3 (.mov (T 19)), o 4 (.mov (T 20))]),
    (.reg [o 22 (.mov (T 3)), o 23 (.mov (T 4)), o 24 (.call 26 [(T 22), (T 23)]), o 21 (.mov (T 24)), o 25 (.ext 0 (T 21)), o 26 (.ext 1 (T 21)), o 27 (.ext 2 (T 21)), o 5 (.hole 6), o 5 (.birth 6 (T 5) (T 25)), o 6 (.mov (T 26)), o 7 (.mov (T 27))]),
    (sqs [
      (.reg [o 28 (.mov (T 7)), o 29 (.not (T 28)), o 30 (.mov (T 29)), og 31 (.mov (T 6)) 30 false, og 32 (.len (T 31)) 30 false, og 33 (.bin .neq (T 32) (I 6)) 30 false, o 34 (.pick (T 30) (B true) (T 33))]),
      (.cond (T 34)
        (sqs [
          (.reg [o 2 (.mov (B false))]),
          .ret])
        .skip)]),
    (.reg [o 36 (.mov (T 3)), o 37 (.mov (T 6)), o 38 (.idxAddr 1 (T 37) (I 5)), o 39 (.load false 1 (T 38)), o 40 (.call 27 [(T 36), (T 39)]), o 35 (.mov (T 40)), o 41 (.ext 0 (T 35)), o 42 (.ext 1 (T 35)), o 8 (.mov (T 41)), o 9 (.mov (T 42))]),
    (.reg [o 43 (.mov (T 0)), o 44 (.call 14 [(T 43)]), o 10 (.mov (T 44))]),
    (.reg [o 46 (.mov (T 3)), o 47 (.mov (T 4)), o 48 (.mov (T 10)), o 49 (.idxAddr 1 (T 48) (I 0)), o 50 (.load false 1 (T 49)), o 51 (.mov (T 4)), o 52 (.len (T 51)), o 53 (.bin .add (T 52) (I 1)), o 54 (.bin .rem (T 50) (T 53)), o 55 (.slice 2 (T 47) none (some (T 54))), o 56 (.call 26 [(T 46), (T 55)]), o 45 (.mov (T 56)), o 57 (.ext 0 (T 45)), o 58 (.ext 1 (T 45)), o 59 (.ext 2 (T 45)), o 11 (.hole 6), o 11 (.birth 6 (T 11) (T 57)), o 12 (.mov (T 58)), o 13 (.mov (T 59))]),
    (.regD [o 60 (.mov (T 9)), o 61 (.mov (T 60)), og 62 (.mov (T 8)) 61 true, og 63 (.mov (T 6)) 61 true, og 64 (.call 24 [(T 62), (T 63)]) 61 true, o 65 (.pick (T 61) (T 64) (B false)), o 66 (.mov (T 65)), og 67 (.mov (T 13)) 66 true, o 68 (.pick (T 66) (T 67) (B false)), o 69 (.mov (T 68)), og 70 (.mov (T 12)) 69 true, og 71 (.len (T 70)) 69 true, og 72 (.bin .eql (T 71) (I 6)) 69 true, o 73 (.pick (T 69) (T 72) (B false)), o 74 (.mov (T 73)), og 75 (.mov (T 12)) 74 true, og 76 (.idxAddr 1 (T 75) (I 5)) 74 true, ⟨some 77, (.load false 1 (T 76)), some (74, true), 17, []⟩, og 78 (.mov (T 6)) 74 true, og 79 (.idxAddr 1 (T 78) (I 5)) 74 true, ⟨some 80, (.load false 1 (T 79)), some (74, true), 20, []⟩, og 81 (.bin .leq (T 77) (T 80)) 74 true, o 82 (.pick (T 74) (T 81) (B false)), o 2 (.mov (T 82))]),
    .ret])
theorem ok7 : cfn Try.prog Try.f7 1 = some (s7, [.tmp 2]) := by kernel_rfl

/-! 8 laws.FnConfigured -/
def s8 : SCode :=
  (sqs [
    (.reg [o 2 (.mov (B false))]),
    (sqs [
      (.reg [o 12 (.mov (T 0)), o 13 (.call 12 [(T 12)])]),
      (.cond (T 13)
        (sqs [
          (.reg [o 2 (.mov (B true))]),
          .ret])
        .skip)]),
    (.reg [o 14 (.mov (T 0)), o 15 (.call 28 [(T 14)]), o 3 (.hole 2), o 3 (.birth 2 (T 3) (T 15))]),
    (.reg [o 16 (.mov (T 0)), o 17 (.call 14 [(T 16)]), o 4 (.mov (T 17))]),
    (.regD [o 18 (.mov (T 4)), o 19 (.idxAddr 1 (T 18) (I 0)), ⟨some 20, (.load false 1 (T 19)), none, 2, []⟩, o 21 (.bin .rem (T 20) (I 4)), o 22 (.mov (T 4)), o 23 (.idxAddr 1 (T 22) (I 1)), ⟨some 24, (.load false 1 (T 23)), none, 6, []⟩, o 25 (.bin .sub (T 24) (I 5000)), o 26 (.build [(.int .i64 0), (.int .i64 0)] [(0, 1, (T 21)), (1, 1, (T 25))]), o 5 (.hole 2), o 5 (.birth 2 (T 5) (T 26))]),
    (.reg [o 27 (.mov (T 4)), o 28 (.idxAddr 1 (T 27) (I 2)), o 29 (.load false 1 (T 28)), o 30 (.bin .rem (T 29) (I 3)), o 6 (.mov (T 30))]),
    (.reg [o 32 (.load true 2 (T 3)), o 33 (.load true 2 (T 5)), o 34 (.mov (T 6)), o 35 (.call 29 [(T 32), (T 33), (T 34)]), o 31 (.mov (T 35)), o 36 (.ext 0 (T 31)), o 37 (.ext 1 (T 31)), o 7 (.hole 2), o 7 (.birth 2 (T 7) (T 36)), o 8 (.mov (T 37))]),
    (.reg [o 39 (.load true 2 (T 3)), o 40 (.load true 2 (T 5)), o 41 (.call 29 [(T 39), (T 40), (I 2)]), o 38 (.mov (T 41)), o 42 (.ext 0 (T 38)), o 43 (.ext 1 (T 38)), o 9 (.hole 2), o 9 (.birth 2 (T 9) (T 42)), o 10 (.mov (T 43))]),
    (.reg [o 44 (.load true 2 (T 7)), o 45 (.call 31 [(T 44)]), o 46 (.call 30 [(T 45)]), o 11 (.hole 2), o 11 (.birth 2 (T 11) (T 46))]),
    (sqs [
      (.reg [o 47 (.fieldAddr 0 (T 11)), o 48 (.load false 1 (T 47)), o 49 (.len (T 48)), o 50 (.bin .neq (T 49) (I 4)), o 51 (.mov (T 50)), og 52 (.fieldAddr 0 (T 9)) 51 false, og 53 (.load false 1 (T 52)) 51 false, og 54 (.len (T 53)) 51 false, og 55 (.bin .neq (T 54) (I 4)) 51 false, o 56 (.pick (T 51) (B true) (T 55))]),
      (.cond (T 56)
        (sqs [
          (.reg [o 2 (.mov (B false))]),
          .ret])
        .skip)]),
    (sqs [
      (.reg [o 57 (.mov (T 6)), o 58 (.bin .eql (T 57) (I 0))]),
      (.cond (T 58)
        (sqs [
          (.regD [o 59 (.mov (T 8)), o 60 (.mov (T 59)), og 61 (.mov (T 10)) 60 true, o 62 (.pick (T 60) (T 61) (B false)), o 63 (.mov (T 62)), og 64 (.fieldAddr 0 (T 11)) 63 true, ⟨some 65, (.load false 1 (T 64)), some (63, true), 6, []⟩, ⟨some 66, (.load true 2 (T 3)), some (63, true), 7, []⟩, ⟨some 67, (.call 31 [(T 66)]), some (63, true), 0, [6]⟩, ⟨some 68, (.call 30 [(T 67)]), some (63, true), 0, [6]⟩, og 69 (.field false 0 1 (T 68)) 63 true, og 70 (.call 24 [(T 65), (T 69)]) 63 true, o 71 (.pick (T 63) (T 70) (B false)), o 2 (.mov (T 71))]),
          .ret])
        .skip)]),
    (.regD [o 72 (.mov (T 8)), o 73 (.mov (T 72)), og 74 (.mov (T 10)) 73 true, o 75 (.pick (T 73) (T 74) (B false)), o 76 (.mov (T 75)), og 77 (.fieldAddr 0 (T 11)) 76 true, ⟨some 78, (.load false 1 (T 77)), some (76, true), 6, []⟩, ⟨some 79, (.load true 2 (T 9)), some (76, true), 7, []⟩, ⟨some 80, (.call 31 [(T 79)]), some (76, true), 0, [6]⟩, ⟨some 81, (.call 30 [(T 80)]), some (76, true), 0, [6]⟩, og 82 (.field false 0 1 (T 81)) 76 true, og 83 (.call 24 [(T 78), (T 82)]) 76 true, o 84 (.pick (T 76) (T 83) (B false)), o 85 (.mov (T 84)), og 86 (.fieldAddr 0 (T 11)) 85 true, ⟨some 87, (.load false 1 (T 86)), some (85, true), 15, []⟩, og 88 (.fieldAddr 0 (T 5)) 85 true, ⟨some 89, (.load false 1 (T 88)), some (85, true), 17, []⟩, og 90 (.idxAddr 1 (T 87) (T 89)) 85 true, ⟨some 91, (.load false 1 (T 90)), some (85, true), 19, []⟩, og 92 (.fieldAddr 1 (T 5)) 85 true, ⟨some 93, (.load false 1 (T 92)), some (85, true), 21, []⟩, og 94 (.bin .eql (T 91) (T 93)) 85 true, o 95 (.pick (T 85) (T 94) (B false)), o 96 (.mov (T 95)), og 97 (.fieldAddr 0 (T 9)) 96 true, ⟨some 98, (.load false 1 (T 97)), some (96, true), 26, []⟩, og 99 (.fieldAddr 0 (T 5)) 96 true, ⟨some 100, (.load false 1 (T 99)), some (96, true), 28, []⟩, og 101 (.idxAddr 1 (T 98) (T 100)) 96 true, ⟨some 102, (.load false 1 (T 101)), some (96, true), 30, []⟩, og 103 (.fieldAddr 1 (T 5)) 96 true, ⟨some 104, (.load false 1 (T 103)), some (96, true), 32, []⟩, og 105 (.bin .eql (T 102) (T 104)) 96 true, o 106 (.pick (T 96) (T 105) (B false)), o 2 (.mov (T 106))]),
    .ret])
theorem ok8 : cfn Try.prog Try.f8 1 = some (s8, [.tmp 2]) := by kernel_rfl

/-! 9 laws.FnExactSaveSome -/
def s9 : SCode :=
  (sqs [
    (.reg [o 3 (.box 6 (T 0)), o 6 (.mov (B false))]),
    (sqs [
      (.reg [o 19 (.mov (T 1)), o 20 (.len (T 19)), o 21 (.bin .gtr (T 20) (I 1048576))]),
      (.cond (T 21)
        (sqs [
          (.reg [o 6 (.mov (B true))]),
          .ret])
        .skip)]),
    (.reg [o 7 (.mov (I 1048576))]),
    (.reg [o 22 (.load true 6 (T 3)), o 23 (.mov (T 7)), o 24 (.call 32 [(T 22), (T 23)]), o 7 (.mov (T 24))]),
    (sqs [
      (.reg [o 25 (.mov (T 7)), o 26 (.bin .lss (T 25) (I 0))]),
      (.cond (T 26)
        (sqs [
          (.reg [o 6 (.mov (B true))]),
          .ret])
        .skip)]),
    (.reg [o 28 (.load true 6 (T 3)), o 29 (.call 34 [(T 28)]), o 30 (.mov (T 1)), o 31 (.call 18 [(T 30)]), o 32 (.mov (T 2)), o 33 (.call 33 [(T 29), (T 31), (T 32)]), o 27 (.mov (T 33)), o 34 (.ext 0 (T 27)), o 35 (.ext 1 (T 27)), o 8 (.hole 6), o 8 (.birth 6 (T 8) (T 34)), o 9 (.mov (T 35))]),
    (.reg [o 36 (.load true 6 (T 3)), o 37 (.call 34 [(T 36)]), o 10 (.hole 6), o 10 (.birth 6 (T 10) (T 37))]),
    (.reg [o 38 (.mov (T 1)), o 39 (.call 18 [(T 38)]), o 11 (.mov (T 39))]),
    (.reg [o 41 (.load true 6 (T 10)), o 42 (.mov (T 11)), o 43 (.mov (T 2)), o 44 (.call 22 [(T 41), (T 42), (T 43)]), o 40 (.mov (T 44)), o 45 (.ext 0 (T 40)), o 46 (.ext 1 (T 40)), o 12 (.hole 6), o 12 (.birth 6 (T 12) (T 45)), o 13 (.mov (T 46))]),
    (sqs [
      (.reg [o 47 (.load true 6 (T 12)), o 48 (.load true 6 (T 8)), o 49 (.call 35 [(T 47), (T 48)]), o 50 (.not (T 49)), o 51 (.mov (T 50)), og 52 (.mov (T 13)) 51 false, og 53 (.mov (T 9)) 51 false, og 54 (.beq true (T 52) (T 53)) 51 false, o 55 (.pick (T 51) (B true) (T 54))]),
      (.cond (T 55)
        (sqs [
          (.reg [o 6 (.mov (B false))]),
          .ret])
        .skip)]),
    (sqs [
      (.regD [o 56 (.load true 6 (T 10)), ⟨some 57, (.load true 6 (T 3)), none, 1, []⟩, ⟨some 58, (.call 34 [(T 57)]), none, 0, [0]⟩, o 59 (.call 35 [(T 56), (T 58)]), o 60 (.not (T 59))]),
      (.cond (T 60)
        (sqs [
          (.reg [o 6 (.mov (B false))]),
          .ret])
        .skip)]),
    (sqs [
      (.reg [o 61 (.mov (T 11)), o 62 (.mov (T 1)), o 63 (.call 18 [(T 62)]), o 64 (.call 20 [(T 61), (T 63)]), o 65 (.not (T 64))]),
      (.cond (T 65)
        (sqs [
          (.reg [o 6 (.mov (B false))]),
          .ret])
        .skip)]),
    (.reg [o 14 (.mov (I 1))]),
    (.reg [o 66 (.load true 6 (T 10)), o 67 (.mov (T 14)), o 68 (.call 36 [(T 66), (T 67)]), o 14 (.mov (T 68))]),
    (.reg [o 69 (.mov (T 11)), o 70 (.mov (T 14)), o 71 (.call 37 [(T 69), (T 70)]), o 14 (.mov (T 71))]),
    (sqs [
      (.reg [o 72 (.mov (T 14)), o 73 (.bin .lss (T 72) (I 0)), o 74 (.mov (T 73)), og 75 (.load true 6 (T 12)) 74 false, og 76 (.load true 6 (T 8)) 74 false, og 77 (.call 35 [(T 75), (T 76)]) 74 false, og 78 (.not (T 77)) 74 false, o 79 (.pick (T 74) (B true) (T 78)), o 80 (.mov (T 79)), og 81 (.mov (T 13)) 80 false, og 82 (.mov (T 9)) 80 false, og 83 (.beq true (T 81) (T 82)) 80 false, o 84 (.pick (T 80) (B true) (T 83))]),
      (.cond (T 84)
        (sqs [
          (.reg [o 6 (.mov (B false))]),
          .ret])
        .skip)]),
    (.reg [o 15 (.mov (I 1))]),
    (.reg [o 85 (.load true 6 (T 12)), o 86 (.mov (T 15)), o 87 (.call 36 [(T 85), (T 86)]), o 15 (.mov (T 87))]),
    (.reg [o 16 (.mov (I 1))]),
    (.reg [o 88 (.load true 6 (T 12)), o 89 (.mov (T 16)), o 90 (.call 38 [(T 88), (T 89)]), o 16 (.mov (T 90))]),
    (sqs [
      (.reg [o 91 (.mov (T 16)), o 92 (.bin .lss (T 91) (I 0))]),
      (.cond (T 92)
        (sqs [
          (.reg [o 6 (.mov (B false))]),
          .ret])
        .skip)]),
    (sqs [
      (.reg [o 93 (.mov (T 16)), o 94 (.mov (T 15)), o 95 (.bin .neq (T 93) (T 94))]),
      (.cond (T 95)
        (sqs [
          (.reg [o 6 (.mov (B false))]),
          .ret])
        .skip)]),
    (.reg [o 97 (.load true 6 (T 3)), o 98 (.call 34 [(T 97)]), o 99 (.mov (T 1)), o 100 (.call 18 [(T 99)]), o 101 (.mov (T 2)), o 102 (.call 22 [(T 98), (T 100), (T 101)]), o 96 (.mov (T 102)), o 103 (.ext 0 (T 96)), o 104 (.ext 1 (T 96)), o 17 (.hole 6), o 17 (.birth 6 (T 17) (T 103)), o 18 (.mov (T 104))]),
    (sqs [
      (.reg [o 105 (.load true 6 (T 17)), o 106 (.load true 6 (T 8)), o 107 (.call 35 [(T 105), (T 106)]), o 108 (.not (T 107)), o 109 (.mov (T 108)), og 110 (.mov (T 18)) 109 false, og 111 (.mov (T 9)) 109 false, og 112 (.beq true (T 110) (T 111)) 109 false, o 113 (.pick (T 109) (B true) (T 112))]),
      (.cond (T 113)
        (sqs [
          (.reg [o 6 (.mov (B false))]),
          .ret])
        .skip)]),
    (.reg [o 16 (.mov (I 1))]),
    (.reg [o 114 (.load true 6 (T 12)), o 115 (.mov (T 16)), o 116 (.call 38 [(T 114), (T 115)]), o 16 (.mov (T 116))]),
    (sqs [
      (.reg [o 117 (.mov (T 16)), o 118 (.bin .lss (T 117) (I 0))]),
      (.cond (T 118)
        (sqs [
          (.reg [o 6 (.mov (B false))]),
          .ret])
        .skip)]),
    (sqs [
      (.reg [o 119 (.mov (T 16)), o 120 (.mov (T 15)), o 121 (.bin .neq (T 119) (T 120))]),
      (.cond (T 121)
        (sqs [
          (.reg [o 6 (.mov (B false))]),
          .ret])
        .skip)]),
    (.reg [o 6 (.mov (B true))]),
    .ret])
theorem ok9 : cfn Try.prog Try.f9 3 = some (s9, [.tmp 6]) := by kernel_rfl

/-! 10 laws.FnExactConfigure -/
def s10 : SCode :=
  (sqs [
    (.reg [o 3 (.box 2 (T 0)), o 4 (.box 2 (T 1)), o 6 (.mov (B false))]),
    (.reg [o 7 (.mov (I 1048576))]),
    (.reg [o 18 (.load true 2 (T 3)), o 19 (.mov (T 7)), o 20 (.call 39 [(T 18), (T 19)]), o 7 (.mov (T 20))]),
    (sqs [
      (.reg [o 21 (.mov (T 7)), o 22 (.bin .lss (T 21) (I 0))]),
      (.cond (T 22)
        (sqs [
          (.reg [o 6 (.mov (B true))]),
          .ret])
        .skip)]),
    (.regD [o 24 (.load true 2 (T 3)), ⟨some 26, (.load true 2 (T 4)), none, 2, []⟩, o 28 (.mov (T 2)), o 8 (.hole 2), ⟨some 25, (.call 41 [(T 24)]), none, 0, [2]⟩, o 27 (.call 42 [(T 26)]), o 29 (.call 40 [(T 25), (T 27), (T 28)]), o 23 (.mov (T 29)), o 30 (.ext 0 (T 23)), o 31 (.ext 1 (T 23)), o 8 (.birth 2 (T 8) (T 30)), o 9 (.mov (T 31))]),
    (.reg [o 32 (.load true 2 (T 3)), o 33 (.call 41 [(T 32)]), o 10 (.hole 2), o 10 (.birth 2 (T 10) (T 33))]),
    (.regD [o 35 (.load true 2 (T 10)), ⟨some 36, (.load true 2 (T 4)), none, 1, []⟩, o 38 (.mov (T 2)), o 11 (.hole 2), ⟨some 37, (.call 42 [(T 36)]), none, 0, [0]⟩, o 39 (.call 29 [(T 35), (T 37), (T 38)]), o 34 (.mov (T 39)), o 40 (.ext 0 (T 34)), o 41 (.ext 1 (T 34)), o 11 (.birth 2 (T 11) (T 40)), o 12 (.mov (T 41))]),
    (sqs [
      (.reg [o 42 (.load true 2 (T 11)), o 43 (.load true 2 (T 8)), o 44 (.call 43 [(T 42), (T 43)]), o 45 (.not (T 44)), o 46 (.mov (T 45)), og 47 (.mov (T 12)) 46 false, og 48 (.mov (T 9)) 46 false, og 49 (.beq true (T 47) (T 48)) 46 false, o 50 (.pick (T 46) (B true) (T 49))]),
      (.cond (T 50)
        (sqs [
          (.reg [o 6 (.mov (B false))]),
          .ret])
        .skip)]),
    (sqs [
      (.regD [o 51 (.load true 2 (T 10)), ⟨some 52, (.load true 2 (T 3)), none, 1, []⟩, ⟨some 53, (.call 41 [(T 52)]), none, 0, [0]⟩, o 54 (.call 43 [(T 51), (T 53)]), o 55 (.not (T 54))]),
      (.cond (T 55)
        (sqs [
          (.reg [o 6 (.mov (B false))]),
          .ret])
        .skip)]),
    (.reg [o 13 (.mov (I 1))]),
    (.reg [o 56 (.load true 2 (T 10)), o 57 (.mov (T 13)), o 58 (.call 44 [(T 56), (T 57)]), o 13 (.mov (T 58))]),
    (sqs [
      (.reg [o 59 (.mov (T 13)), o 60 (.bin .lss (T 59) (I 0)), o 61 (.mov (T 60)), og 62 (.load true 2 (T 11)) 61 false, og 63 (.load true 2 (T 8)) 61 false, og 64 (.call 43 [(T 62), (T 63)]) 61 false, og 65 (.not (T 64)) 61 false, o 66 (.pick (T 61) (B true) (T 65)), o 67 (.mov (T 66)), og 68 (.mov (T 12)) 67 false, og 69 (.mov (T 9)) 67 false, og 70 (.beq true (T 68) (T 69)) 67 false, o 71 (.pick (T 67) (B true) (T 70))]),
      (.cond (T 71)
        (sqs [
          (.reg [o 6 (.mov (B false))]),
          .ret])
        .skip)]),
    (.reg [o 14 (.mov (I 1))]),
    (.reg [o 72 (.load true 2 (T 11)), o 73 (.mov (T 14)), o 74 (.call 44 [(T 72), (T 73)]), o 14 (.mov (T 74))]),
    (.reg [o 15 (.mov (I 1))]),
    (.reg [o 75 (.load true 2 (T 11)), o 76 (.mov (T 15)), o 77 (.call 45 [(T 75), (T 76)]), o 15 (.mov (T 77))]),
    (sqs [
      (.reg [o 78 (.mov (T 15)), o 79 (.bin .lss (T 78) (I 0))]),
      (.cond (T 79)
        (sqs [
          (.reg [o 6 (.mov (B false))]),
          .ret])
        .skip)]),
    (sqs [
      (.reg [o 80 (.mov (T 15)), o 81 (.mov (T 14)), o 82 (.bin .neq (T 80) (T 81))]),
      (.cond (T 82)
        (sqs [
          (.reg [o 6 (.mov (B false))]),
          .ret])
        .skip)]),
    (.regD [o 84 (.load true 2 (T 3)), ⟨some 86, (.load true 2 (T 4)), none, 2, []⟩, o 88 (.mov (T 2)), o 16 (.hole 2), ⟨some 85, (.call 41 [(T 84)]), none, 0, [2]⟩, o 87 (.call 42 [(T 86)]), o 89 (.call 29 [(T 85), (T 87), (T 88)]), o 83 (.mov (T 89)), o 90 (.ext 0 (T 83)), o 91 (.ext 1 (T 83)), o 16 (.birth 2 (T 16) (T 90)), o 17 (.mov (T 91))]),
    (sqs [
      (.reg [o 92 (.load true 2 (T 16)), o 93 (.load true 2 (T 8)), o 94 (.call 43 [(T 92), (T 93)]), o 95 (.not (T 94)), o 96 (.mov (T 95)), og 97 (.mov (T 17)) 96 false, og 98 (.mov (T 9)) 96 false, og 99 (.beq true (T 97) (T 98)) 96 false, o 100 (.pick (T 96) (B true) (T 99))]),
      (.cond (T 100)
        (sqs [
          (.reg [o 6 (.mov (B false))]),
          .ret])
        .skip)]),
    (.reg [o 15 (.mov (I 1))]),
    (.reg [o 101 (.load true 2 (T 11)), o 102 (.mov (T 15)), o 103 (.call 45 [(T 101), (T 102)]), o 15 (.mov (T 103))]),
    (sqs [
      (.reg [o 104 (.mov (T 15)), o 105 (.bin .lss (T 104) (I 0))]),
      (.cond (T 105)
        (sqs [
          (.reg [o 6 (.mov (B false))]),
          .ret])
        .skip)]),
    (sqs [
      (.reg [o 106 (.mov (T 15)), o 107 (.mov (T 14)), o 108 (.bin .neq (T 106) (T 107))]),
      (.cond (T 108)
        (sqs [
          (.reg [o 6 (.mov (B false))]),
          .ret])
        .skip)]),
    (.reg [o 6 (.mov (B true))]),
    .ret])
theorem ok10 : cfn Try.prog Try.f10 3 = some (s10, [.tmp 6]) := by kernel_rfl

/-! 11 laws.FnExactJitRun -/
def s11 : SCode :=
  (sqs [
    (.reg [o 4 (.mov (B false))]),
    (.reg [o 5 (.mov (I 1048576))]),
    (.reg [o 20 (.mov (T 0)), o 21 (.mov (T 5)), o 22 (.call 46 [(T 20), (T 21)]), o 5 (.mov (T 22))]),
    (sqs [
      (.reg [o 23 (.mov (T 5)), o 24 (.bin .lss (T 23) (I 0))]),
      (.cond (T 24)
        (sqs [
          (.reg [o 4 (.mov (B true))]),
          .ret])
        .skip)]),
    (.reg [o 25 (.mov (T 1)), o 26 (.mov (T 5)), o 27 (.call 47 [(T 25), (T 26)]), o 5 (.mov (T 27))]),
    (sqs [
      (.reg [o 28 (.mov (T 5)), o 29 (.bin .lss (T 28) (I 0))]),
      (.cond (T 29)
        (sqs [
          (.reg [o 4 (.mov (B true))]),
          .ret])
        .skip)]),
    (.reg [o 31 (.mov (T 0)), o 32 (.call 49 [(T 31)]), o 33 (.mov (T 1)), o 34 (.call 50 [(T 33)]), o 35 (.call 48 [(T 32), (T 34)]), o 30 (.mov (T 35)), o 36 (.ext 0 (T 30)), o 37 (.ext 1 (T 30)), o 38 (.ext 2 (T 30)), o 6 (.hole 6), o 6 (.birth 6 (T 6) (T 36)), o 7 (.mov (T 37)), o 8 (.mov (T 38))]),
    (.reg [o 39 (.mov (T 0)), o 40 (.call 49 [(T 39)]), o 9 (.mov (T 40))]),
    (.reg [o 41 (.mov (T 1)), o 42 (.call 50 [(T 41)]), o 10 (.mov (T 42))]),
    (.reg [o 44 (.mov (T 9)), o 45 (.mov (T 10)), o 46 (.call 26 [(T 44), (T 45)]), o 43 (.mov (T 46)), o 47 (.ext 0 (T 43)), o 48 (.ext 1 (T 43)), o 49 (.ext 2 (T 43)), o 11 (.hole 6), o 11 (.birth 6 (T 11) (T 47)), o 12 (.mov (T 48)), o 13 (.mov (T 49))]),
    (sqs [
      (.reg [o 50 (.load true 6 (T 11)), o 51 (.load true 6 (T 6)), o 52 (.call 35 [(T 50), (T 51)]), o 53 (.not (T 52)), o 54 (.mov (T 53)), og 55 (.mov (T 12)) 54 false, og 56 (.mov (T 7)) 54 false, og 57 (.call 20 [(T 55), (T 56)]) 54 false, og 58 (.not (T 57)) 54 false, o 59 (.pick (T 54) (B true) (T 58)), o 60 (.mov (T 59)), og 61 (.mov (T 13)) 60 false, og 62 (.mov (T 8)) 60 false, og 63 (.beq true (T 61) (T 62)) 60 false, o 64 (.pick (T 60) (B true) (T 63))]),
      (.cond (T 64)
        (sqs [
          (.reg [o 4 (.mov (B false))]),
          .ret])
        .skip)]),
    (sqs [
      (.reg [o 65 (.mov (T 9)), o 66 (.mov (T 0)), o 67 (.call 49 [(T 66)]), o 68 (.call 51 [(T 65), (T 67)]), o 69 (.not (T 68))]),
      (.cond (T 69)
        (sqs [
          (.reg [o 4 (.mov (B false))]),
          .ret])
        .skip)]),
    (sqs [
      (.reg [o 70 (.mov (T 10)), o 71 (.mov (T 1)), o 72 (.call 50 [(T 71)]), o 73 (.call 52 [(T 70), (T 72)]), o 74 (.not (T 73))]),
      (.cond (T 74)
        (sqs [
          (.reg [o 4 (.mov (B false))]),
          .ret])
        .skip)]),
    (.reg [o 14 (.mov (I 1))]),
    (.reg [o 75 (.mov (T 9)), o 76 (.mov (T 14)), o 77 (.call 53 [(T 75), (T 76)]), o 14 (.mov (T 77))]),
    (.reg [o 78 (.mov (T 10)), o 79 (.mov (T 14)), o 80 (.call 54 [(T 78), (T 79)]), o 14 (.mov (T 80))]),
    (sqs [
      (.reg [o 81 (.mov (T 14)), o 82 (.bin .lss (T 81) (I 0)), o 83 (.mov (T 82)), og 84 (.load true 6 (T 11)) 83 false, og 85 (.load true 6 (T 6)) 83 false, og 86 (.call 35 [(T 84), (T 85)]) 83 false, og 87 (.not (T 86)) 83 false, o 88 (.pick (T 83) (B true) (T 87)), o 89 (.mov (T 88)), og 90 (.mov (T 12)) 89 false, og 91 (.mov (T 7)) 89 false, og 92 (.call 20 [(T 90), (T 91)]) 89 false, og 93 (.not (T 92)) 89 false, o 94 (.pick (T 89) (B true) (T 93)), o 95 (.mov (T 94)), og 96 (.mov (T 13)) 95 false, og 97 (.mov (T 8)) 95 false, og 98 (.beq true (T 96) (T 97)) 95 false, o 99 (.pick (T 95) (B true) (T 98))]),
      (.cond (T 99)
        (sqs [
          (.reg [o 4 (.mov (B false))]),
          .ret])
        .skip)]),
    (.reg [o 15 (.mov (I 1))]),
    (.reg [o 100 (.load true 6 (T 11)), o 101 (.mov (T 15)), o 102 (.call 36 [(T 100), (T 101)]), o 15 (.mov (T 102))]),
    (.reg [o 103 (.mov (T 12)), o 104 (.mov (T 15)), o 105 (.call 37 [(T 103), (T 104)]), o 15 (.mov (T 105))]),
    (.reg [o 16 (.mov (I 1))]),
    (.reg [o 106 (.load true 6 (T 11)), o 107 (.mov (T 16)), o 108 (.call 38 [(T 106), (T 107)]), o 16 (.mov (T 108))]),
    (sqs [
      (.reg [o 109 (.mov (T 16)), o 110 (.bin .lss (T 109) (I 0))]),
      (.cond (T 110)
        (sqs [
          (.reg [o 4 (.mov (B false))]),
          .ret])
        .skip)]),
    (.reg [o 111 (.mov (T 12)), o 112 (.mov (T 16)), o 113 (.call 55 [(T 111), (T 112)]), o 16 (.mov (T 113))]),
    (sqs [
      (.reg [o 114 (.mov (T 16)), o 115 (.bin .lss (T 114) (I 0))]),
      (.cond (T 115)
        (sqs [
          (.reg [o 4 (.mov (B false))]),
          .ret])
        .skip)]),
    (sqs [
      (.reg [o 116 (.mov (T 16)), o 117 (.mov (T 15)), o 118 (.bin .neq (T 116) (T 117))]),
      (.cond (T 118)
        (sqs [
          (.reg [o 4 (.mov (B false))]),
          .ret])
        .skip)]),
    (.reg [o 120 (.mov (T 0)), o 121 (.call 49 [(T 120)]), o 122 (.mov (T 1)), o 123 (.call 50 [(T 122)]), o 124 (.call 26 [(T 121), (T 123)]), o 119 (.mov (T 124)), o 125 (.ext 0 (T 119)), o 126 (.ext 1 (T 119)), o 127 (.ext 2 (T 119)), o 17 (.hole 6), o 17 (.birth 6 (T 17) (T 125)), o 18 (.mov (T 126)), o 19 (.mov (T 127))]),
    (sqs [
      (.reg [o 128 (.load true 6 (T 17)), o 129 (.load true 6 (T 6)), o 130 (.call 35 [(T 128), (T 129)]), o 131 (.not (T 130)), o 132 (.mov (T 131)), og 133 (.mov (T 18)) 132 false, og 134 (.mov (T 7)) 132 false, og 135 (.call 20 [(T 133), (T 134)]) 132 false, og 136 (.not (T 135)) 132 false, o 137 (.pick (T 132) (B true) (T 136)), o 138 (.mov (T 137)), og 139 (.mov (T 19)) 138 false, og 140 (.mov (T 8)) 138 false, og 141 (.beq true (T 139) (T 140)) 138 false, o 142 (.pick (T 138) (B true) (T 141))]),
      (.cond (T 142)
        (sqs [
          (.reg [o 4 (.mov (B false))]),
          .ret])
        .skip)]),
    (.reg [o 16 (.mov (I 1))]),
    (.reg [o 143 (.load true 6 (T 11)), o 144 (.mov (T 16)), o 145 (.call 38 [(T 143), (T 144)]), o 16 (.mov (T 145))]),
    (sqs [
      (.reg [o 146 (.mov (T 16)), o 147 (.bin .lss (T 146) (I 0))]),
      (.cond (T 147)
        (sqs [
          (.reg [o 4 (.mov (B false))]),
          .ret])
        .skip)]),
    (.reg [o 148 (.mov (T 12)), o 149 (.mov (T 16)), o 150 (.call 55 [(T 148), (T 149)]), o 16 (.mov (T 150))]),
    (sqs [
      (.reg [o 151 (.mov (T 16)), o 152 (.bin .lss (T 151) (I 0))]),
      (.cond (T 152)
        (sqs [
          (.reg [o 4 (.mov (B false))]),
          .ret])
        .skip)]),
    (sqs [
      (.reg [o 153 (.mov (T 16)), o 154 (.mov (T 15)), o 155 (.bin .neq (T 153) (T 154))]),
      (.cond (T 155)
        (sqs [
          (.reg [o 4 (.mov (B false))]),
          .ret])
        .skip)]),
    (.reg [o 4 (.mov (B true))]),
    .ret])
theorem ok11 : cfn Try.prog Try.f11 2 = some (s11, [.tmp 4]) := by kernel_rfl

/-! 12 laws.big -/
def s12 : SCode :=
  (sqs [
    (.reg [o 2 (.mov (B false))]),
    (.reg [o 3 (.mov (T 0)), o 4 (.len (T 3)), o 5 (.bin .gtr (T 4) (I 1048576)), o 2 (.mov (T 5))]),
    .ret])
theorem ok12 : cfn Try.prog Try.f12 1 = some (s12, [.tmp 2]) := by kernel_rfl

/-! 13 spec.DrawPair -/
def s13 : SCode :=
  (sqs [
    (.reg [o 2 (.zero [(.int .i64 0), .nils, (.int .i64 0), (.int .i64 0), .nils, (.int .i64 0)]), o 3 (.mov N)]),
    (.reg [o 6 (.mov (T 0)), o 7 (.call 56 [(T 6)]), o 4 (.mov (T 7))]),
    (.reg [o 8 (.mov (T 4)), o 9 (.call 57 [(T 8)]), o 5 (.hole 6), o 5 (.birth 6 (T 5) (T 9))]),
    (.regD [o 10 (.load true 6 (T 5)), o 11 (.mov (T 4)), ⟨some 12, (.call 58 [(T 11)]), none, 0, [0]⟩, on_ (.store 6 (T 2) (T 10)), o 3 (.mov (T 12))]),
    .ret])
theorem ok13 : cfn Try.prog Try.f13 1 = some (s13, [.cell 2 true 6, .tmp 3]) := by kernel_rfl

/-! 14 spec.DrawPlaces -/
def s14 : SCode :=
  (sqs [
    (.reg [o 2 (.mov N)]),
    (.reg [o 6 (.mov (T 0)), o 7 (.call 56 [(T 6)]), o 3 (.mov (T 7))]),
    (.reg [o 8 (.lit 0 1 [(.int .i64 0)] []), o 4 (.mov (T 8))]),
    (sqs [
      (.reg [o 5 (.mov (I 0))]),
      (.block 0
        (.loop
          (sqs [
            (sqs [
              (.reg [o 9 (.mov (T 5)), o 10 (.bin .lss (T 9) (I 12))]),
              (.cond (T 10)
                .skip
                (.exit 0))]),
            (.block 1
              (.reg [o 13 (.mov (T 4)), o 14 (.mov (T 3)), o 15 (.call 59 [(T 14), (I 10000)]), o 16 (.lit 1 1 [(.int .i64 0)] [(0, (T 15))]), o 17 (.append 1 8 (T 13) (T 16)), o 4 (.mov (T 17))])),
            (.reg [o 11 (.mov (T 5)), o 12 (.bin .add (T 11) (I 1)), o 5 (.mov (T 12))])])))]),
    (.reg [o 18 (.mov (T 4)), o 2 (.mov (T 18))]),
    .ret])
theorem ok14 : cfn Try.prog Try.f14 1 = some (s14, [.tmp 2]) := by kernel_rfl

/-! 15 impl.SumOf -/
def s15 : SCode :=
  (sqs [
    (.reg [o 4 (.mov (I 0))]),
    (sqs [
      (.reg [o 8 (.mov (T 1)), o 9 (.len (T 8)), o 10 (.bin .neq (T 9) (I 6))]),
      (.cond (T 10)
        (sqs [
          (.reg [o 4 (.mov (I (-1)))]),
          .ret])
        .skip)]),
    (.reg [o 11 (.mov (T 0)), o 12 (.call 60 [(T 11), (I 100003)]), o 5 (.mov (T 12))]),
    (sqs [
      (.reg [o 13 (.mov (T 1)), o 14 (.len (T 13)), o 15 (.mov (I 0))]),
      (.block 0
        (.loop
          (sqs [
            (.reg [o 16 (.bin .lss (T 15) (T 14))]),
            (.cond (T 16)
              .skip
              (.exit 0)),
            (.block 1
              (sqs [
                (.reg [o 17 (.idxAddr 1 (T 13) (T 15)), o 18 (.load false 1 (T 17)), o 7 (.mov (T 18))]),
                (.reg [o 19 (.mov (T 5)), o 20 (.bin .mul (I 31) (T 19)), o 21 (.mov (T 7)), o 22 (.call 60 [(T 21), (I 100003)]), o 23 (.bin .add (T 20) (T 22)), o 24 (.bin .rem (T 23) (I 100003)), o 5 (.mov (T 24))])])),
            (.reg [o 25 (.bin .add (T 15) (I 1)), o 15 (.mov (T 25))])])))]),
    (.reg [o 26 (.mov (T 5)), o 4 (.mov (T 26))]),
    .ret])
theorem ok15 : cfn Try.prog Try.f15 2 = some (s15, [.tmp 4]) := by kernel_rfl

/-! 16 spec.CommitsAtLeast -/
def s16 : SCode :=
  (sqs [
    (.reg [o 2 (.box 4 (T 0)), o 4 (.mov (I 0))]),
    (.reg [o 8 (.load true 4 (T 2)), o 9 (.mov (T 1)), o 10 (.call 61 [(T 8), (T 9)]), o 7 (.mov (T 10)), o 11 (.ext 0 (T 7)), o 12 (.ext 1 (T 7)), o 5 (.mov (T 11)), o 6 (.mov (T 12))]),
    (sqs [
      (.reg [o 13 (.mov (T 6)), o 14 (.not (T 13))]),
      (.cond (T 14)
        (sqs [
          (.reg [o 4 (.mov (I (-1)))]),
          .ret])
        .skip)]),
    (.reg [o 15 (.mov (T 5)), o 16 (.len (T 15)), o 4 (.mov (T 16))]),
    .ret])
theorem ok16 : cfn Try.prog Try.f16 2 = some (s16, [.tmp 4]) := by kernel_rfl

/-! 17 laws.toStore -/
def s17 : SCode :=
  (sqs [
    (.reg [o 1 (.box 4 (T 0)), o 2 (.zero [(.int .i64 0), (.int .i64 0), (.int .i64 0), (.int .i64 0)])]),
    (.reg [o 3 (.zero [(.int .i64 0), (.int .i64 0), (.int .i64 0), (.int .i64 0)])]),
    (.reg [o 4 (.fieldAddr 0 (T 1)), o 5 (.load false 1 (T 4)), o 6 (.fieldAddr 0 (T 3)), on_ (.store 1 (T 6) (T 5))]),
    (.reg [o 7 (.fieldAddr 1 (T 1)), o 8 (.load false 1 (T 7)), o 9 (.fieldAddr 1 (T 3)), on_ (.store 1 (T 9) (T 8))]),
    (.reg [o 10 (.fieldAddr 2 (T 1)), o 11 (.load false 1 (T 10)), o 12 (.fieldAddr 2 (T 3)), on_ (.store 1 (T 12) (T 11))]),
    (.reg [o 13 (.fieldAddr 3 (T 1)), o 14 (.load false 1 (T 13)), o 15 (.fieldAddr 3 (T 3)), on_ (.store 1 (T 15) (T 14))]),
    (.reg [o 16 (.load true 4 (T 3)), on_ (.store 4 (T 2) (T 16))]),
    .ret])
theorem ok17 : cfn Try.prog Try.f17 1 = some (s17, [.cell 2 true 4]) := by kernel_rfl

/-! 18 laws.toIntS -/
def s18 : SCode :=
  (sqs [
    (.reg [o 2 (.mov N)]),
    (.reg [o 5 (.mov (T 0)), o 6 (.len (T 5)), o 7 (.make 1 8 [(.int .i64 0)] (T 6)), o 3 (.mov (T 7))]),
    (sqs [
      (.reg [o 4 (.mov (I 0))]),
      (.block 0
        (.loop
          (sqs [
            (sqs [
              (.reg [o 8 (.mov (T 4)), o 9 (.mov (T 0)), o 10 (.len (T 9)), o 11 (.bin .lss (T 8) (T 10))]),
              (.cond (T 11)
                .skip
                (.exit 0))]),
            (.block 1
              (.reg [o 14 (.mov (T 3)), o 15 (.mov (T 4)), o 16 (.mov (T 0)), o 17 (.mov (T 4)), o 18 (.idxAddr 1 (T 16) (T 17)), o 19 (.load false 1 (T 18)), o 20 (.idxAddr 1 (T 14) (T 15)), on_ (.store 1 (T 20) (T 19))])),
            (.reg [o 12 (.mov (T 4)), o 13 (.bin .add (T 12) (I 1)), o 4 (.mov (T 13))])])))]),
    (.reg [o 21 (.mov (T 3)), o 2 (.mov (T 21))]),
    .ret])
theorem ok18 : cfn Try.prog Try.f18 1 = some (s18, [.tmp 2]) := by kernel_rfl

/-! 19 impl.CommitsAtLeast -/
def s19 : SCode :=
  (sqs [
    (.reg [o 2 (.box 4 (T 0)), o 4 (.mov (I 0))]),
    (.reg [o 8 (.load true 4 (T 2)), o 9 (.mov (T 1)), o 10 (.call 62 [(T 8), (T 9)]), o 7 (.mov (T 10)), o 11 (.ext 0 (T 7)), o 12 (.ext 1 (T 7)), o 5 (.mov (T 11)), o 6 (.mov (T 12))]),
    (sqs [
      (.reg [o 13 (.mov (T 6)), o 14 (.not (T 13))]),
      (.cond (T 14)
        (sqs [
          (.reg [o 4 (.mov (I (-1)))]),
          .ret])
        .skip)]),
    (.reg [o 15 (.mov (T 5)), o 16 (.len (T 15)), o 17 (.min (I 60) (T 16)), o 4 (.mov (T 17))]),
    .ret])
theorem ok19 : cfn Try.prog Try.f19 2 = some (s19, [.tmp 4]) := by kernel_rfl

/-! 20 laws.eqIntS -/
def s20 : SCode :=
  (sqs [
    (.reg [o 4 (.mov (B false))]),
    (sqs [
      (.reg [o 6 (.mov (T 0)), o 7 (.len (T 6)), o 8 (.mov (T 1)), o 9 (.len (T 8)), o 10 (.bin .neq (T 7) (T 9))]),
      (.cond (T 10)
        (sqs [
          (.reg [o 4 (.mov (B false))]),
          .ret])
        .skip)]),
    (sqs [
      (.reg [o 5 (.mov (I 0))]),
      (.block 0
        (.loop
          (sqs [
            (sqs [
              (.reg [o 11 (.mov (T 5)), o 12 (.mov (T 0)), o 13 (.len (T 12)), o 14 (.bin .lss (T 11) (T 13))]),
              (.cond (T 14)
                .skip
                (.exit 0))]),
            (.block 1
              (sqs [
                (.regD [o 17 (.mov (T 0)), o 18 (.mov (T 5)), o 19 (.idxAddr 1 (T 17) (T 18)), ⟨some 20, (.load false 1 (T 19)), none, 3, []⟩, o 21 (.mov (T 1)), o 22 (.mov (T 5)), o 23 (.idxAddr 1 (T 21) (T 22)), ⟨some 24, (.load false 1 (T 23)), none, 7, []⟩, o 25 (.bin .neq (T 20) (T 24))]),
                (.cond (T 25)
                  (sqs [
                    (.reg [o 4 (.mov (B false))]),
                    .ret])
                  .skip)])),
            (.reg [o 15 (.mov (T 5)), o 16 (.bin .add (T 15) (I 1)), o 5 (.mov (T 16))])])))]),
    (.reg [o 4 (.mov (B true))]),
    .ret])
theorem ok20 : cfn Try.prog Try.f20 2 = some (s20, [.tmp 4]) := by kernel_rfl

/-! 21 impl.Newest -/
def s21 : SCode :=
  (sqs [
    (.reg [o 1 (.box 6 (T 0)), o 2 (.zero [(.int .i64 0), .nils, (.int .i64 0)]), o 3 (.mov (B false))]),
    (sqs [
      (.reg [o 4 (.load true 6 (T 1)), o 5 (.call 63 [(T 4)])]),
      (.block 0
        (sqs [
          (.reg [o 7 (.bin .eql (T 5) (I 0)), o 6 (.mov (T 7))]),
          (.cond (T 6)
            (sqs [
              (.reg [o 8 (.fieldAddr 0 (T 1)), o 9 (.load true 3 (T 8)), o 10 (.call 64 [(T 9)]), on_ (.store 3 (T 2) (T 10)), o 3 (.mov (B true))]),
              .ret])
            (sqs [
              (.reg [o 12 (.bin .eql (T 5) (I 1)), o 11 (.mov (T 12))]),
              (.cond (T 11)
                (sqs [
                  (.reg [o 13 (.fieldAddr 3 (T 1)), o 14 (.load true 3 (T 13)), o 15 (.call 64 [(T 14)]), on_ (.store 3 (T 2) (T 15)), o 3 (.mov (B true))]),
                  .ret])
                .skip)]))]))]),
    (.reg [o 16 (.build [(.int .i64 0), .nils, (.int .i64 0)] []), on_ (.store 3 (T 2) (T 16)), o 3 (.mov (B false))]),
    .ret])
theorem ok21 : cfn Try.prog Try.f21 1 = some (s21, [.cell 2 true 3, .tmp 3]) := by kernel_rfl

/-! 22 impl.SaveSome -/
def s22 : SCode :=
  (sqs [
    (.reg [o 3 (.box 6 (T 0)), o 6 (.zero [(.int .i64 0), .nils, (.int .i64 0), (.int .i64 0), .nils, (.int .i64 0)]), o 7 (.mov (B false))]),
    (.reg [o 12 (.load true 6 (T 3)), o 13 (.call 65 [(T 12)]), o 8 (.hole 6), o 8 (.birth 6 (T 8) (T 13))]),
    (.reg [o 15 (.load true 6 (T 3)), o 16 (.mov (T 1)), o 17 (.call 23 [(T 15), (T 16)]), o 14 (.mov (T 17)), o 18 (.ext 0 (T 14)), o 19 (.ext 1 (T 14)), o 20 (.ext 2 (T 14)), o 9 (.mov (T 18)), o 10 (.mov (T 19)), o 11 (.mov (T 20))]),
    (sqs [
      (.reg [o 21 (.mov (T 11)), o 22 (.not (T 21)), o 23 (.mov (T 22)), og 24 (.mov (T 2)) 23 false, og 25 (.bin .lss (T 24) (I 0)) 23 false, o 26 (.pick (T 23) (B true) (T 25))]),
      (.cond (T 26)
        (sqs [
          (.reg [o 27 (.load true 6 (T 8)), on_ (.store 6 (T 6) (T 27)), o 7 (.mov (B false))]),
          .ret])
        .skip)]),
    (.reg [o 28 (.mov (T 9)), o 29 (.mov (T 2)), o 30 (.mov (T 9)), o 31 (.len (T 30)), o 32 (.min (T 29) (T 31)), o 33 (.slice 1 (T 28) none (some (T 32))), o 9 (.mov (T 33))]),
    (sqs [
      (.reg [o 34 (.mov (T 10)), o 35 (.bin .eql (T 34) (I 0))]),
      (.cond (T 35)
        (.reg [o 36 (.fieldAddr 0 (T 8)), o 37 (.mov (T 9)), o 38 (.call 66 [(T 36), (T 37)])])
        (.reg [o 39 (.fieldAddr 3 (T 8)), o 40 (.mov (T 9)), o 41 (.call 66 [(T 39), (T 40)])]))]),
    (.reg [o 42 (.load true 6 (T 8)), on_ (.store 6 (T 6) (T 42)), o 7 (.mov (B true))]),
    .ret])
theorem ok22 : cfn Try.prog Try.f22 3 = some (s22, [.cell 6 true 6, .tmp 7]) := by kernel_rfl

/-! 23 impl.SaveWrites -/
def s23 : SCode :=
  (sqs [
    (.reg [o 2 (.box 6 (T 0)), o 4 (.mov N), o 5 (.mov (I 0)), o 6 (.mov (B false))]),
    (.reg [o 12 (.load true 6 (T 2)), o 13 (.call 21 [(T 12)]), o 11 (.mov (T 13)), o 14 (.ext 0 (T 11)), o 15 (.ext 1 (T 11)), o 7 (.hole 3), o 7 (.birth 3 (T 7) (T 14)), o 8 (.mov (T 15))]),
    (sqs [
      (.reg [o 16 (.mov (T 1)), o 17 (.len (T 16)), o 18 (.bin .neq (T 17) (I 6)), o 19 (.mov (T 18)), og 20 (.fieldAddr 0 (T 7)) 19 false, og 21 (.load false 1 (T 20)) 19 false, og 22 (.bin .geq (T 21) (I 1000000)) 19 false, o 23 (.pick (T 19) (B true) (T 22))]),
      (.cond (T 23)
        (sqs [
          (.reg [o 4 (.mov N), o 5 (.mov (I 0)), o 6 (.mov (B false))]),
          .ret])
        .skip)]),
    (.reg [o 24 (.fieldAddr 0 (T 7)), o 25 (.load false 1 (T 24)), o 26 (.bin .add (T 25) (I 1)), o 9 (.mov (T 26))]),
    (.reg [o 27 (.lit 1 1 [(.int .i64 0)] [(0, (I 0))]), o 28 (.mov (T 1)), o 29 (.append 1 8 (T 27) (T 28)), o 10 (.mov (T 29))]),
    (.regD [o 30 (.mov (T 10)), o 31 (.mov (T 9)), o 32 (.mov (T 1)), o 34 (.mov (T 9)), ⟨some 37, (.load true 6 (T 2)), none, 7, []⟩, ⟨some 33, (.call 15 [(T 31), (T 32)]), none, 0, [7]⟩, ⟨some 35, (.lit 2 1 [(.int .i64 0)] [(0, (T 33)), (1, (T 34))]), none, 0, [7]⟩, ⟨some 36, (.append 1 8 (T 30) (T 35)), none, 0, [7]⟩, o 38 (.call 63 [(T 37)]), o 39 (.bin .eql (T 38) (I 0)), o 40 (.call 67 [(T 39)]), o 4 (.mov (T 36)), o 5 (.mov (T 40)), o 6 (.mov (B true))]),
    .ret])
theorem ok23 : cfn Try.prog Try.f23 2 = some (s23, [.tmp 4, .tmp 5, .tmp 6]) := by kernel_rfl

/-! 24 laws.sameInts -/
def s24 : SCode :=
  (sqs [
    (.reg [o 4 (.mov (B false))]),
    (sqs [
      (.reg [o 6 (.mov (T 0)), o 7 (.len (T 6)), o 8 (.mov (T 1)), o 9 (.len (T 8)), o 10 (.bin .neq (T 7) (T 9))]),
      (.cond (T 10)
        (sqs [
          (.reg [o 4 (.mov (B false))]),
          .ret])
        .skip)]),
    (sqs [
      (.reg [o 5 (.mov (I 0))]),
      (.block 0
        (.loop
          (sqs [
            (sqs [
              (.reg [o 11 (.mov (T 5)), o 12 (.mov (T 0)), o 13 (.len (T 12)), o 14 (.bin .lss (T 11) (T 13))]),
              (.cond (T 14)
                .skip
                (.exit 0))]),
            (.block 1
              (sqs [
                (.regD [o 17 (.mov (T 0)), o 18 (.mov (T 5)), o 19 (.idxAddr 1 (T 17) (T 18)), ⟨some 20, (.load false 1 (T 19)), none, 3, []⟩, o 21 (.mov (T 1)), o 22 (.mov (T 5)), o 23 (.idxAddr 1 (T 21) (T 22)), ⟨some 24, (.load false 1 (T 23)), none, 7, []⟩, o 25 (.bin .neq (T 20) (T 24))]),
                (.cond (T 25)
                  (sqs [
                    (.reg [o 4 (.mov (B false))]),
                    .ret])
                  .skip)])),
            (.reg [o 15 (.mov (T 5)), o 16 (.bin .add (T 15) (I 1)), o 5 (.mov (T 16))])])))]),
    (.reg [o 4 (.mov (B true))]),
    .ret])
theorem ok24 : cfn Try.prog Try.f24 2 = some (s24, [.tmp 4]) := by kernel_rfl

/-! 25 spec.DrawJit -/
def s25 : SCode :=
  (sqs [
    (.reg [o 2 (.mov N), o 3 (.mov N)]),
    (.reg [o 6 (.mov (T 0)), o 7 (.call 56 [(T 6)]), o 4 (.mov (T 7))]),
    (.reg [o 8 (.mov (T 4)), o 9 (.call 68 [(T 8)]), o 5 (.mov (T 9))]),
    (.reg [o 10 (.mov (T 5)), o 11 (.mov (T 4)), o 12 (.call 69 [(T 11)]), o 2 (.mov (T 10)), o 3 (.mov (T 12))]),
    .ret])
theorem ok25 : cfn Try.prog Try.f25 1 = some (s25, [.tmp 2, .tmp 3]) := by kernel_rfl

/-! 26 impl.JitRun -/
def s26 : SCode :=
  (sqs [
    (.reg [o 4 (.zero [(.int .i64 0), .nils, (.int .i64 0), (.int .i64 0), .nils, (.int .i64 0)]), o 5 (.mov N), o 6 (.mov (B false))]),
    (sqs [
      (.reg [o 10 (.mov (T 0)), o 11 (.call 70 [(T 10)]), o 12 (.not (T 11)), o 13 (.mov (T 12)), og 14 (.mov (T 1)) 13 false, og 15 (.len (T 14)) 13 false, og 16 (.bin .gtr (T 15) (I 50)) 13 false, o 17 (.pick (T 13) (B true) (T 16)), o 18 (.mov (T 17)), og 19 (.mov (T 1)) 18 false, og 20 (.call 71 [(T 19), (.val (.fn 72 []))]) 18 false, o 21 (.pick (T 18) (B true) (T 20))]),
      (.cond (T 21)
        (sqs [
          (.reg [o 22 (.build [(.int .i64 0), .nils, (.int .i64 0), (.int .i64 0), .nils, (.int .i64 0)] []), on_ (.store 6 (T 4) (T 22)), o 5 (.mov N), o 6 (.mov (B false))]),
          .ret])
        .skip)]),
    (.reg [o 23 (.build [(.int .i64 0), .nils, (.int .i64 0), (.int .i64 0), .nils, (.int .i64 0)] []), o 7 (.hole 6), o 7 (.birth 6 (T 7) (T 23))]),
    (sqs [
      (.reg [o 24 (.mov (T 1)), o 25 (.len (T 24)), o 26 (.mov (I 0))]),
      (.block 0
        (.loop
          (sqs [
            (.reg [o 27 (.bin .lss (T 26) (T 25))]),
            (.cond (T 27)
              .skip
              (.exit 0)),
            (.block 1
              (sqs [
                (.reg [o 28 (.idxAddr 2 (T 24) (T 26)), o 29 (.load true 2 (T 28)), o 9 (.hole 2), o 9 (.birth 2 (T 9) (T 29))]),
                (.regD [o 31 (.load true 6 (T 7)), o 32 (.mov (T 0)), ⟨some 33, (.load true 6 (T 7)), none, 2, []⟩, o 35 (.fieldAddr 0 (T 9)), ⟨some 36, (.load false 1 (T 35)), none, 5, []⟩, o 38 (.fieldAddr 1 (T 9)), ⟨some 39, (.load false 1 (T 38)), none, 8, []⟩, ⟨some 34, (.call 75 [(T 33)]), none, 0, [0, 5, 8]⟩, ⟨some 37, (.call 74 [(T 32), (T 34), (T 36)]), none, 0, [0, 8]⟩, o 40 (.call 22 [(T 31), (T 37), (T 39)]), o 30 (.mov (T 40)), o 41 (.ext 0 (T 30)), o 42 (.ext 1 (T 30)), on_ (.store 6 (T 7) (T 41))])])),
            (.reg [o 43 (.bin .add (T 26) (I 1)), o 26 (.mov (T 43))])])))]),
    (.regD [o 44 (.load true 6 (T 7)), ⟨some 45, (.load true 6 (T 7)), none, 1, []⟩, ⟨some 46, (.call 75 [(T 45)]), none, 0, [0]⟩, on_ (.store 6 (T 4) (T 44)), o 5 (.mov (T 46)), o 6 (.mov (B true))]),
    .ret])
theorem ok26 : cfn Try.prog Try.f26 2 = some (s26, [.cell 4 true 6, .tmp 5, .tmp 6]) := by kernel_rfl

/-! 27 impl.StateAfter -/
def s27 : SCode :=
  (sqs [
    (.reg [o 4 (.mov N), o 5 (.mov (B false))]),
    (sqs [
      (.reg [o 6 (.mov (T 0)), o 7 (.call 70 [(T 6)]), o 8 (.not (T 7)), o 9 (.mov (T 8)), og 10 (.mov (T 1)) 9 false, og 11 (.call 73 [(T 10), (I 0), (I 2000)]) 9 false, og 12 (.not (T 11)) 9 false, o 13 (.pick (T 9) (B true) (T 12))]),
      (.cond (T 13)
        (sqs [
          (.reg [o 4 (.mov N), o 5 (.mov (B false))]),
          .ret])
        .skip)]),
    (.reg [o 14 (.mov (T 0)), o 15 (.make 1 8 [(.int .i64 0)] (I 6)), o 16 (.mov (T 1)), o 17 (.call 74 [(T 14), (T 15), (T 16)]), o 4 (.mov (T 17)), o 5 (.mov (B true))]),
    .ret])
theorem ok27 : cfn Try.prog Try.f27 2 = some (s27, [.tmp 4, .tmp 5]) := by kernel_rfl

/-! 28 spec.DrawDevice -/
def s28 : SCode :=
  (sqs [
    (.reg [o 2 (.zero [.nils, .nils])]),
    (.reg [o 3 (.mov (T 0)), o 4 (.call 56 [(T 3)]), o 5 (.call 76 [(T 4)]), on_ (.store 2 (T 2) (T 5))]),
    .ret])
theorem ok28 : cfn Try.prog Try.f28 1 = some (s28, [.cell 2 true 2]) := by kernel_rfl

/-! 29 impl.Configure -/
def s29 : SCode :=
  (sqs [
    (.reg [o 3 (.box 2 (T 0)), o 4 (.box 2 (T 1)), o 6 (.zero [.nils, .nils]), o 7 (.mov (B false))]),
    (.reg [o 9 (.load true 2 (T 3)), o 10 (.call 77 [(T 9)]), o 8 (.hole 2), o 8 (.birth 2 (T 8) (T 10))]),
    (sqs [
      (.reg [o 11 (.load true 2 (T 3)), o 12 (.call 78 [(T 11)]), o 13 (.not (T 12)), o 14 (.mov (T 13)), og 15 (.load true 2 (T 4)) 14 false, og 16 (.call 79 [(T 15)]) 14 false, og 17 (.not (T 16)) 14 false, o 18 (.pick (T 14) (B true) (T 17)), o 19 (.mov (T 18)), og 20 (.mov (T 2)) 19 false, og 21 (.call 73 [(T 20), (I 0), (I 2)]) 19 false, og 22 (.not (T 21)) 19 false, o 23 (.pick (T 19) (B true) (T 22))]),
      (.cond (T 23)
        (sqs [
          (.reg [o 24 (.load true 2 (T 8)), on_ (.store 2 (T 6) (T 24)), o 7 (.mov (B false))]),
          .ret])
        .skip)]),
    (sqs [
      (.reg [o 25 (.mov (T 2)), o 26 (.bin .gtr (T 25) (I 0))]),
      (.cond (T 26)
        (.reg [o 27 (.load true 2 (T 4)), o 28 (.call 80 [(T 8), (T 27)])])
        .skip)]),
    (sqs [
      (.reg [o 29 (.mov (T 2)), o 30 (.bin .gtr (T 29) (I 1))]),
      (.cond (T 30)
        (.reg [o 31 (.fieldAddr 0 (T 8)), o 32 (.load false 1 (T 31)), o 33 (.fieldAddr 0 (T 4)), o 34 (.load false 1 (T 33)), o 35 (.fieldAddr 1 (T 4)), o 36 (.load false 1 (T 35)), o 37 (.idxAddr 1 (T 32) (T 34)), on_ (.store 1 (T 37) (T 36))])
        .skip)]),
    (.reg [o 38 (.load true 2 (T 8)), on_ (.store 2 (T 6) (T 38)), o 7 (.mov (B true))]),
    .ret])
theorem ok29 : cfn Try.prog Try.f29 3 = some (s29, [.cell 6 true 2, .tmp 7]) := by kernel_rfl

/-! 30 impl.Restore -/
def s30 : SCode :=
  (sqs [
    (.reg [o 1 (.box 2 (T 0)), o 2 (.zero [.nils, .nils])]),
    (.reg [o 6 (.load true 2 (T 1)), o 7 (.call 77 [(T 6)]), o 3 (.hole 2), o 3 (.birth 2 (T 3) (T 7))]),
    (sqs [
      (.reg [o 8 (.load true 2 (T 1)), o 9 (.call 78 [(T 8)])]),
      (.cond (T 9)
        (sqs [
          (.reg [o 10 (.fieldAddr 1 (T 1)), o 11 (.load false 1 (T 10)), o 12 (.len (T 11)), o 13 (.mov (I 0))]),
          (.block 0
            (.loop
              (sqs [
                (.reg [o 14 (.bin .lss (T 13) (T 12))]),
                (.cond (T 14)
                  .skip
                  (.exit 0)),
                (.block 1
                  (sqs [
                    (.reg [o 15 (.idxAddr 2 (T 11) (T 13)), o 16 (.load true 2 (T 15)), o 5 (.hole 2), o 5 (.birth 2 (T 5) (T 16))]),
                    (.reg [o 17 (.fieldAddr 0 (T 3)), o 18 (.load false 1 (T 17)), o 19 (.fieldAddr 0 (T 5)), o 20 (.load false 1 (T 19)), o 21 (.fieldAddr 1 (T 5)), o 22 (.load false 1 (T 21)), o 23 (.idxAddr 1 (T 18) (T 20)), on_ (.store 1 (T 23) (T 22))])])),
                (.reg [o 24 (.bin .add (T 13) (I 1)), o 13 (.mov (T 24))])])))])
        .skip)]),
    (.reg [o 25 (.load true 2 (T 3)), on_ (.store 2 (T 2) (T 25))]),
    .ret])
theorem ok30 : cfn Try.prog Try.f30 1 = some (s30, [.cell 2 true 2]) := by kernel_rfl

/-! 31 impl.PowerFail -/
def s31 : SCode :=
  (sqs [
    (.reg [o 1 (.box 2 (T 0)), o 2 (.zero [.nils, .nils])]),
    (.reg [o 4 (.load true 2 (T 1)), o 5 (.call 77 [(T 4)]), o 3 (.hole 2), o 3 (.birth 2 (T 3) (T 5))]),
    (sqs [
      (.reg [o 6 (.load true 2 (T 1)), o 7 (.call 78 [(T 6)])]),
      (.cond (T 7)
        (.reg [o 8 (.fieldAddr 0 (T 3)), o 9 (.load false 1 (T 8)), on_ (.clear 1 [(.int .i64 0)] (T 9))])
        .skip)]),
    (.reg [o 10 (.load true 2 (T 3)), on_ (.store 2 (T 2) (T 10))]),
    .ret])
theorem ok31 : cfn Try.prog Try.f31 1 = some (s31, [.cell 2 true 2]) := by kernel_rfl

/-! 32 laws.szPair -/
def s32 : SCode :=
  (sqs [
    (.reg [o 2 (.box 6 (T 0)), o 4 (.mov (I 0))]),
    (.reg [o 5 (.fieldAddr 0 (T 2)), o 6 (.load true 3 (T 5)), o 7 (.mov (T 1)), o 8 (.call 81 [(T 6), (T 7)]), o 1 (.mov (T 8))]),
    (sqs [
      (.reg [o 9 (.mov (T 1)), o 10 (.bin .lss (T 9) (I 0))]),
      (.cond (T 10)
        (sqs [
          (.reg [o 4 (.mov (I (-1)))]),
          .ret])
        .skip)]),
    (.reg [o 11 (.fieldAddr 3 (T 2)), o 12 (.load true 3 (T 11)), o 13 (.mov (T 1)), o 14 (.call 81 [(T 12), (T 13)]), o 1 (.mov (T 14))]),
    (sqs [
      (.reg [o 15 (.mov (T 1)), o 16 (.bin .lss (T 15) (I 0))]),
      (.cond (T 16)
        (sqs [
          (.reg [o 4 (.mov (I (-1)))]),
          .ret])
        .skip)]),
    (.reg [o 17 (.mov (T 1)), o 4 (.mov (T 17))]),
    .ret])
theorem ok32 : cfn Try.prog Try.f32 2 = some (s32, [.tmp 4]) := by kernel_rfl

/-! 33 spec.SaveSome -/
def s33 : SCode :=
  (sqs [
    (.reg [o 3 (.box 6 (T 0)), o 6 (.zero [(.int .i64 0), .nils, (.int .i64 0), (.int .i64 0), .nils, (.int .i64 0)]), o 7 (.mov (B false))]),
    (.regD [o 12 (.fieldAddr 0 (T 3)), ⟨some 13, (.load true 3 (T 12)), none, 1, []⟩, o 15 (.fieldAddr 3 (T 3)), ⟨some 16, (.load true 3 (T 15)), none, 4, []⟩, o 8 (.hole 6), ⟨some 14, (.call 82 [(T 13)]), none, 0, [4]⟩, o 17 (.call 82 [(T 16)]), o 18 (.build [(.int .i64 0), .nils, (.int .i64 0), (.int .i64 0), .nils, (.int .i64 0)] [(0, 3, (T 14)), (3, 3, (T 17))]), o 8 (.birth 6 (T 8) (T 18))]),
    (.reg [o 20 (.load true 6 (T 3)), o 21 (.mov (T 1)), o 22 (.call 83 [(T 20), (T 21)]), o 19 (.mov (T 22)), o 23 (.ext 0 (T 19)), o 24 (.ext 1 (T 19)), o 25 (.ext 2 (T 19)), o 9 (.mov (T 23)), o 10 (.mov (T 24)), o 11 (.mov (T 25))]),
    (sqs [
      (.reg [o 26 (.mov (T 11)), o 27 (.not (T 26)), o 28 (.mov (T 27)), og 29 (.mov (T 2)) 28 false, og 30 (.bin .lss (T 29) (I 0)) 28 false, o 31 (.pick (T 28) (B true) (T 30))]),
      (.cond (T 31)
        (sqs [
          (.reg [o 32 (.load true 6 (T 8)), on_ (.store 6 (T 6) (T 32)), o 7 (.mov (B false))]),
          .ret])
        .skip)]),
    (sqs [
      (.reg [o 33 (.mov (T 10)), o 34 (.bin .eql (T 33) (I 0))]),
      (.cond (T 34)
        (.reg [o 35 (.fieldAddr 0 (T 8)), o 36 (.load true 3 (T 35)), o 37 (.mov (T 9)), o 38 (.mov (T 2)), o 39 (.call 84 [(T 36), (T 37), (T 38)]), o 40 (.fieldAddr 0 (T 8)), on_ (.store 3 (T 40) (T 39))])
        (.reg [o 41 (.fieldAddr 3 (T 8)), o 42 (.load true 3 (T 41)), o 43 (.mov (T 9)), o 44 (.mov (T 2)), o 45 (.call 84 [(T 42), (T 43), (T 44)]), o 46 (.fieldAddr 3 (T 8)), on_ (.store 3 (T 46) (T 45))]))]),
    (.reg [o 47 (.load true 6 (T 8)), on_ (.store 6 (T 6) (T 47)), o 7 (.mov (B true))]),
    .ret])
theorem ok33 : cfn Try.prog Try.f33 3 = some (s33, [.cell 6 true 6, .tmp 7]) := by kernel_rfl

/-! 34 laws.toPair -/
def s34 : SCode :=
  (sqs [
    (.reg [o 1 (.box 6 (T 0)), o 2 (.zero [(.int .i64 0), .nils, (.int .i64 0), (.int .i64 0), .nils, (.int .i64 0)])]),
    (.reg [o 3 (.zero [(.int .i64 0), .nils, (.int .i64 0), (.int .i64 0), .nils, (.int .i64 0)])]),
    (.reg [o 4 (.fieldAddr 0 (T 1)), o 5 (.load true 3 (T 4)), o 6 (.call 85 [(T 5)]), o 7 (.fieldAddr 0 (T 3)), on_ (.store 3 (T 7) (T 6))]),
    (.reg [o 8 (.fieldAddr 3 (T 1)), o 9 (.load true 3 (T 8)), o 10 (.call 85 [(T 9)]), o 11 (.fieldAddr 3 (T 3)), on_ (.store 3 (T 11) (T 10))]),
    (.reg [o 12 (.load true 6 (T 3)), on_ (.store 6 (T 2) (T 12))]),
    .ret])
theorem ok34 : cfn Try.prog Try.f34 1 = some (s34, [.cell 2 true 6]) := by kernel_rfl

/-! 35 laws.eqPair -/
def s35 : SCode :=
  (sqs [
    (.reg [o 2 (.box 6 (T 0)), o 3 (.box 6 (T 1)), o 4 (.mov (B false))]),
    (sqs [
      (.reg [o 5 (.fieldAddr 0 (T 2)), o 6 (.load true 3 (T 5)), o 7 (.fieldAddr 0 (T 3)), o 8 (.load true 3 (T 7)), o 9 (.call 86 [(T 6), (T 8)]), o 10 (.not (T 9))]),
      (.cond (T 10)
        (sqs [
          (.reg [o 4 (.mov (B false))]),
          .ret])
        .skip)]),
    (sqs [
      (.reg [o 11 (.fieldAddr 3 (T 2)), o 12 (.load true 3 (T 11)), o 13 (.fieldAddr 3 (T 3)), o 14 (.load true 3 (T 13)), o 15 (.call 86 [(T 12), (T 14)]), o 16 (.not (T 15))]),
      (.cond (T 16)
        (sqs [
          (.reg [o 4 (.mov (B false))]),
          .ret])
        .skip)]),
    (.reg [o 4 (.mov (B true))]),
    .ret])
theorem ok35 : cfn Try.prog Try.f35 2 = some (s35, [.tmp 4]) := by kernel_rfl

/-! 36 laws.markPair -/
def s36 : SCode :=
  (sqs [
    (.reg [o 2 (.box 6 (T 0)), o 4 (.mov (I 0))]),
    (.reg [o 5 (.fieldAddr 0 (T 2)), o 6 (.load true 3 (T 5)), o 7 (.mov (T 1)), o 8 (.call 87 [(T 6), (T 7)]), o 1 (.mov (T 8))]),
    (.reg [o 9 (.fieldAddr 3 (T 2)), o 10 (.load true 3 (T 9)), o 11 (.mov (T 1)), o 12 (.call 87 [(T 10), (T 11)]), o 1 (.mov (T 12))]),
    (.reg [o 13 (.mov (T 1)), o 4 (.mov (T 13))]),
    .ret])
theorem ok36 : cfn Try.prog Try.f36 2 = some (s36, [.tmp 4]) := by kernel_rfl

/-! 37 laws.markIntS -/
def s37 : SCode :=
  (sqs [
    (.reg [o 4 (.mov (I 0))]),
    (sqs [
      (.reg [o 5 (.mov (I 0))]),
      (.block 0
        (.loop
          (sqs [
            (sqs [
              (.reg [o 6 (.mov (T 5)), o 7 (.mov (T 0)), o 8 (.len (T 7)), o 9 (.bin .lss (T 6) (T 8))]),
              (.cond (T 9)
                .skip
                (.exit 0))]),
            (.block 1
              (sqs [
                (.reg [o 12 (.mov (T 0)), o 13 (.mov (T 5)), o 14 (.mov (T 1)), o 15 (.idxAddr 1 (T 12) (T 13)), on_ (.store 1 (T 15) (T 14))]),
                (.reg [o 16 (.mov (T 1)), o 17 (.bin .add (T 16) (I 1)), o 1 (.mov (T 17))])])),
            (.reg [o 10 (.mov (T 5)), o 11 (.bin .add (T 10) (I 1)), o 5 (.mov (T 11))])])))]),
    (.reg [o 18 (.mov (T 1)), o 4 (.mov (T 18))]),
    .ret])
theorem ok37 : cfn Try.prog Try.f37 2 = some (s37, [.tmp 4]) := by kernel_rfl

/-! 38 laws.heldPair -/
def s38 : SCode :=
  (sqs [
    (.reg [o 2 (.box 6 (T 0)), o 4 (.mov (I 0))]),
    (.reg [o 5 (.fieldAddr 0 (T 2)), o 6 (.load true 3 (T 5)), o 7 (.mov (T 1)), o 8 (.call 88 [(T 6), (T 7)]), o 1 (.mov (T 8))]),
    (sqs [
      (.reg [o 9 (.mov (T 1)), o 10 (.bin .lss (T 9) (I 0))]),
      (.cond (T 10)
        (sqs [
          (.reg [o 4 (.mov (I (-1)))]),
          .ret])
        .skip)]),
    (.reg [o 11 (.fieldAddr 3 (T 2)), o 12 (.load true 3 (T 11)), o 13 (.mov (T 1)), o 14 (.call 88 [(T 12), (T 13)]), o 1 (.mov (T 14))]),
    (sqs [
      (.reg [o 15 (.mov (T 1)), o 16 (.bin .lss (T 15) (I 0))]),
      (.cond (T 16)
        (sqs [
          (.reg [o 4 (.mov (I (-1)))]),
          .ret])
        .skip)]),
    (.reg [o 17 (.mov (T 1)), o 4 (.mov (T 17))]),
    .ret])
theorem ok38 : cfn Try.prog Try.f38 2 = some (s38, [.tmp 4]) := by kernel_rfl

/-! 39 laws.szDevice -/
def s39 : SCode :=
  (sqs [
    (.reg [o 2 (.box 2 (T 0)), o 4 (.mov (I 0))]),
    (.reg [o 5 (.fieldAddr 0 (T 2)), o 6 (.load false 1 (T 5)), o 7 (.mov (T 1)), o 8 (.call 89 [(T 6), (T 7)]), o 1 (.mov (T 8))]),
    (sqs [
      (.reg [o 9 (.mov (T 1)), o 10 (.bin .lss (T 9) (I 0))]),
      (.cond (T 10)
        (sqs [
          (.reg [o 4 (.mov (I (-1)))]),
          .ret])
        .skip)]),
    (.reg [o 11 (.fieldAddr 1 (T 2)), o 12 (.load false 1 (T 11)), o 13 (.mov (T 1)), o 14 (.call 90 [(T 12), (T 13)]), o 1 (.mov (T 14))]),
    (sqs [
      (.reg [o 15 (.mov (T 1)), o 16 (.bin .lss (T 15) (I 0))]),
      (.cond (T 16)
        (sqs [
          (.reg [o 4 (.mov (I (-1)))]),
          .ret])
        .skip)]),
    (.reg [o 17 (.mov (T 1)), o 4 (.mov (T 17))]),
    .ret])
theorem ok39 : cfn Try.prog Try.f39 2 = some (s39, [.tmp 4]) := by kernel_rfl

/-! 40 spec.Configure -/
def s40 : SCode :=
  (sqs [
    (.reg [o 3 (.box 2 (T 0)), o 4 (.box 2 (T 1)), o 6 (.zero [.nils, .nils]), o 7 (.mov (B false))]),
    (.reg [o 9 (.load true 2 (T 3)), o 10 (.call 91 [(T 9)]), o 8 (.hole 2), o 8 (.birth 2 (T 8) (T 10))]),
    (sqs [
      (.reg [o 11 (.load true 2 (T 3)), o 12 (.call 92 [(T 11)]), o 13 (.not (T 12)), o 14 (.mov (T 13)), og 15 (.fieldAddr 0 (T 4)) 14 false, og 16 (.load false 1 (T 15)) 14 false, og 17 (.call 93 [(T 16), (I 0), (I 3)]) 14 false, og 18 (.not (T 17)) 14 false, o 19 (.pick (T 14) (B true) (T 18)), o 20 (.mov (T 19)), og 21 (.fieldAddr 1 (T 4)) 20 false, og 22 (.load false 1 (T 21)) 20 false, og 23 (.call 94 [(T 22)]) 20 false, og 24 (.not (T 23)) 20 false, o 25 (.pick (T 20) (B true) (T 24)), o 26 (.mov (T 25)), og 27 (.mov (T 2)) 26 false, og 28 (.call 93 [(T 27), (I 0), (I 2)]) 26 false, og 29 (.not (T 28)) 26 false, o 30 (.pick (T 26) (B true) (T 29))]),
      (.cond (T 30)
        (sqs [
          (.reg [o 31 (.load true 2 (T 8)), on_ (.store 2 (T 6) (T 31)), o 7 (.mov (B false))]),
          .ret])
        .skip)]),
    (sqs [
      (.reg [o 32 (.mov (T 2)), o 33 (.bin .geq (T 32) (I 1))]),
      (.cond (T 33)
        (.reg [o 34 (.fieldAddr 1 (T 8)), o 35 (.load false 1 (T 34)), o 36 (.load true 2 (T 4)), o 37 (.call 95 [(T 35), (T 36)]), o 38 (.fieldAddr 1 (T 8)), on_ (.store 1 (T 38) (T 37))])
        .skip)]),
    (sqs [
      (.reg [o 39 (.mov (T 2)), o 40 (.bin .eql (T 39) (I 2))]),
      (.cond (T 40)
        (.reg [o 41 (.fieldAddr 0 (T 8)), o 42 (.load false 1 (T 41)), o 43 (.fieldAddr 0 (T 4)), o 44 (.load false 1 (T 43)), o 45 (.fieldAddr 1 (T 4)), o 46 (.load false 1 (T 45)), o 47 (.idxAddr 1 (T 42) (T 44)), on_ (.store 1 (T 47) (T 46))])
        .skip)]),
    (.reg [o 48 (.load true 2 (T 8)), on_ (.store 2 (T 6) (T 48)), o 7 (.mov (B true))]),
    .ret])
theorem ok40 : cfn Try.prog Try.f40 3 = some (s40, [.cell 6 true 2, .tmp 7]) := by kernel_rfl

/-! 41 laws.toDevice -/
def s41 : SCode :=
  (sqs [
    (.reg [o 1 (.box 2 (T 0)), o 2 (.zero [.nils, .nils])]),
    (.reg [o 3 (.zero [.nils, .nils])]),
    (.reg [o 4 (.fieldAddr 0 (T 1)), o 5 (.load false 1 (T 4)), o 6 (.call 18 [(T 5)]), o 7 (.fieldAddr 0 (T 3)), on_ (.store 1 (T 7) (T 6))]),
    (.reg [o 8 (.fieldAddr 1 (T 1)), o 9 (.load false 1 (T 8)), o 10 (.call 96 [(T 9)]), o 11 (.fieldAddr 1 (T 3)), on_ (.store 1 (T 11) (T 10))]),
    (.reg [o 12 (.load true 2 (T 3)), on_ (.store 2 (T 2) (T 12))]),
    .ret])
theorem ok41 : cfn Try.prog Try.f41 1 = some (s41, [.cell 2 true 2]) := by kernel_rfl

/-! 42 laws.toSetting -/
def s42 : SCode :=
  (sqs [
    (.reg [o 1 (.box 2 (T 0)), o 2 (.zero [(.int .i64 0), (.int .i64 0)])]),
    (.reg [o 3 (.zero [(.int .i64 0), (.int .i64 0)])]),
    (.reg [o 4 (.fieldAddr 0 (T 1)), o 5 (.load false 1 (T 4)), o 6 (.fieldAddr 0 (T 3)), on_ (.store 1 (T 6) (T 5))]),
    (.reg [o 7 (.fieldAddr 1 (T 1)), o 8 (.load false 1 (T 7)), o 9 (.fieldAddr 1 (T 3)), on_ (.store 1 (T 9) (T 8))]),
    (.reg [o 10 (.load true 2 (T 3)), on_ (.store 2 (T 2) (T 10))]),
    .ret])
theorem ok42 : cfn Try.prog Try.f42 1 = some (s42, [.cell 2 true 2]) := by kernel_rfl

/-! 43 laws.eqDevice -/
def s43 : SCode :=
  (sqs [
    (.reg [o 2 (.box 2 (T 0)), o 3 (.box 2 (T 1)), o 4 (.mov (B false))]),
    (sqs [
      (.reg [o 5 (.fieldAddr 0 (T 2)), o 6 (.load false 1 (T 5)), o 7 (.fieldAddr 0 (T 3)), o 8 (.load false 1 (T 7)), o 9 (.call 20 [(T 6), (T 8)]), o 10 (.not (T 9))]),
      (.cond (T 10)
        (sqs [
          (.reg [o 4 (.mov (B false))]),
          .ret])
        .skip)]),
    (sqs [
      (.reg [o 11 (.fieldAddr 1 (T 2)), o 12 (.load false 1 (T 11)), o 13 (.fieldAddr 1 (T 3)), o 14 (.load false 1 (T 13)), o 15 (.call 97 [(T 12), (T 14)]), o 16 (.not (T 15))]),
      (.cond (T 16)
        (sqs [
          (.reg [o 4 (.mov (B false))]),
          .ret])
        .skip)]),
    (.reg [o 4 (.mov (B true))]),
    .ret])
theorem ok43 : cfn Try.prog Try.f43 2 = some (s43, [.tmp 4]) := by kernel_rfl

/-! 44 laws.markDevice -/
def s44 : SCode :=
  (sqs [
    (.reg [o 2 (.box 2 (T 0)), o 4 (.mov (I 0))]),
    (.reg [o 5 (.fieldAddr 0 (T 2)), o 6 (.load false 1 (T 5)), o 7 (.mov (T 1)), o 8 (.call 37 [(T 6), (T 7)]), o 1 (.mov (T 8))]),
    (.reg [o 9 (.fieldAddr 1 (T 2)), o 10 (.load false 1 (T 9)), o 11 (.mov (T 1)), o 12 (.call 98 [(T 10), (T 11)]), o 1 (.mov (T 12))]),
    (.reg [o 13 (.mov (T 1)), o 4 (.mov (T 13))]),
    .ret])
theorem ok44 : cfn Try.prog Try.f44 2 = some (s44, [.tmp 4]) := by kernel_rfl

/-! 45 laws.heldDevice -/
def s45 : SCode :=
  (sqs [
    (.reg [o 2 (.box 2 (T 0)), o 4 (.mov (I 0))]),
    (.reg [o 5 (.fieldAddr 0 (T 2)), o 6 (.load false 1 (T 5)), o 7 (.mov (T 1)), o 8 (.call 55 [(T 6), (T 7)]), o 1 (.mov (T 8))]),
    (sqs [
      (.reg [o 9 (.mov (T 1)), o 10 (.bin .lss (T 9) (I 0))]),
      (.cond (T 10)
        (sqs [
          (.reg [o 4 (.mov (I (-1)))]),
          .ret])
        .skip)]),
    (.reg [o 11 (.fieldAddr 1 (T 2)), o 12 (.load false 1 (T 11)), o 13 (.mov (T 1)), o 14 (.call 99 [(T 12), (T 13)]), o 1 (.mov (T 14))]),
    (sqs [
      (.reg [o 15 (.mov (T 1)), o 16 (.bin .lss (T 15) (I 0))]),
      (.cond (T 16)
        (sqs [
          (.reg [o 4 (.mov (I (-1)))]),
          .ret])
        .skip)]),
    (.reg [o 17 (.mov (T 1)), o 4 (.mov (T 17))]),
    .ret])
theorem ok45 : cfn Try.prog Try.f45 2 = some (s45, [.tmp 4]) := by kernel_rfl

/-! 46 laws.szInstrS -/
def s46 : SCode :=
  (sqs [
    (.reg [o 4 (.mov (I 0))]),
    (.reg [o 5 (.mov (T 1)), o 6 (.mov (T 0)), o 7 (.len (T 6)), o 8 (.bin .sub (T 5) (T 7)), o 1 (.mov (T 8))]),
    (sqs [
      (.reg [o 9 (.mov (T 1)), o 10 (.bin .lss (T 9) (I 0))]),
      (.cond (T 10)
        (sqs [
          (.reg [o 4 (.mov (I (-1)))]),
          .ret])
        .skip)]),
    (.reg [o 11 (.mov (T 1)), o 4 (.mov (T 11))]),
    .ret])
theorem ok46 : cfn Try.prog Try.f46 2 = some (s46, [.tmp 4]) := by kernel_rfl

/-! 47 laws.szShotS -/
def s47 : SCode :=
  (sqs [
    (.reg [o 4 (.mov (I 0))]),
    (.reg [o 5 (.mov (T 1)), o 6 (.mov (T 0)), o 7 (.len (T 6)), o 8 (.bin .sub (T 5) (T 7)), o 1 (.mov (T 8))]),
    (sqs [
      (.reg [o 9 (.mov (T 1)), o 10 (.bin .lss (T 9) (I 0))]),
      (.cond (T 10)
        (sqs [
          (.reg [o 4 (.mov (I (-1)))]),
          .ret])
        .skip)]),
    (.reg [o 11 (.mov (T 1)), o 4 (.mov (T 11))]),
    .ret])
theorem ok47 : cfn Try.prog Try.f47 2 = some (s47, [.tmp 4]) := by kernel_rfl

/-! 48 spec.JitRun -/
def s48 : SCode :=
  (sqs [
    (.reg [o 4 (.zero [(.int .i64 0), .nils, (.int .i64 0), (.int .i64 0), .nils, (.int .i64 0)]), o 5 (.mov N), o 6 (.mov (B false))]),
    (.reg [o 9 (.build [(.int .i64 0), .nils, (.int .i64 0), (.int .i64 0), .nils, (.int .i64 0)] []), o 7 (.hole 6), o 7 (.birth 6 (T 7) (T 9))]),
    (sqs [
      (.reg [o 10 (.mov (T 0)), o 11 (.mov (T 1)), o 12 (.call 100 [(T 10), (T 11)]), o 13 (.not (T 12))]),
      (.cond (T 13)
        (sqs [
          (.reg [o 14 (.load true 6 (T 7)), o 15 (.lit 0 1 [(.int .i64 0)] []), on_ (.store 6 (T 4) (T 14)), o 5 (.mov (T 15)), o 6 (.mov (B false))]),
          .ret])
        .skip)]),
    (sqs [
      (.reg [o 8 (.mov (I 0))]),
      (.block 0
        (.loop
          (sqs [
            (sqs [
              (.reg [o 16 (.mov (T 8)), o 17 (.mov (T 1)), o 18 (.len (T 17)), o 19 (.bin .lss (T 16) (T 18))]),
              (.cond (T 19)
                .skip
                (.exit 0))]),
            (.block 1
              (.regD [o 23 (.load true 6 (T 7)), o 24 (.mov (T 0)), ⟨some 25, (.load true 6 (T 7)), none, 2, []⟩, o 27 (.mov (T 1)), o 28 (.mov (T 8)), o 29 (.idxAddr 2 (T 27) (T 28)), o 30 (.fieldAddr 0 (T 29)), ⟨some 31, (.load false 1 (T 30)), none, 8, []⟩, o 33 (.mov (T 1)), o 34 (.mov (T 8)), o 35 (.idxAddr 2 (T 33) (T 34)), o 36 (.fieldAddr 1 (T 35)), ⟨some 37, (.load false 1 (T 36)), none, 14, []⟩, ⟨some 26, (.call 102 [(T 25)]), none, 0, [0, 8, 14]⟩, ⟨some 32, (.call 101 [(T 24), (T 26), (T 31)]), none, 0, [0, 14]⟩, o 38 (.call 33 [(T 23), (T 32), (T 37)]), o 22 (.mov (T 38)), o 39 (.ext 0 (T 22)), o 40 (.ext 1 (T 22)), on_ (.store 6 (T 7) (T 39))])),
            (.reg [o 20 (.mov (T 8)), o 21 (.bin .add (T 20) (I 1)), o 8 (.mov (T 21))])])))]),
    (.regD [o 41 (.load true 6 (T 7)), ⟨some 42, (.load true 6 (T 7)), none, 1, []⟩, ⟨some 43, (.call 102 [(T 42)]), none, 0, [0]⟩, on_ (.store 6 (T 4) (T 41)), o 5 (.mov (T 43)), o 6 (.mov (B true))]),
    .ret])
theorem ok48 : cfn Try.prog Try.f48 2 = some (s48, [.cell 4 true 6, .tmp 5, .tmp 6]) := by kernel_rfl

/-! 49 laws.toInstrS -/
def s49 : SCode :=
  (sqs [
    (.reg [o 2 (.mov N)]),
    (.reg [o 5 (.mov (T 0)), o 6 (.len (T 5)), o 7 (.make 3 24 [(.int .i64 0), (.int .i64 0), (.int .i64 0)] (T 6)), o 3 (.mov (T 7))]),
    (sqs [
      (.reg [o 4 (.mov (I 0))]),
      (.block 0
        (.loop
          (sqs [
            (sqs [
              (.reg [o 8 (.mov (T 4)), o 9 (.mov (T 0)), o 10 (.len (T 9)), o 11 (.bin .lss (T 8) (T 10))]),
              (.cond (T 11)
                .skip
                (.exit 0))]),
            (.block 1
              (.reg [o 14 (.mov (T 3)), o 15 (.mov (T 4)), o 16 (.mov (T 0)), o 17 (.mov (T 4)), o 18 (.idxAddr 3 (T 16) (T 17)), o 19 (.load true 3 (T 18)), o 20 (.call 103 [(T 19)]), o 21 (.idxAddr 3 (T 14) (T 15)), on_ (.store 3 (T 21) (T 20))])),
            (.reg [o 12 (.mov (T 4)), o 13 (.bin .add (T 12) (I 1)), o 4 (.mov (T 13))])])))]),
    (.reg [o 22 (.mov (T 3)), o 2 (.mov (T 22))]),
    .ret])
theorem ok49 : cfn Try.prog Try.f49 1 = some (s49, [.tmp 2]) := by kernel_rfl

/-! 50 laws.toShotS -/
def s50 : SCode :=
  (sqs [
    (.reg [o 2 (.mov N)]),
    (.reg [o 5 (.mov (T 0)), o 6 (.len (T 5)), o 7 (.make 2 16 [(.int .i64 0), (.int .i64 0)] (T 6)), o 3 (.mov (T 7))]),
    (sqs [
      (.reg [o 4 (.mov (I 0))]),
      (.block 0
        (.loop
          (sqs [
            (sqs [
              (.reg [o 8 (.mov (T 4)), o 9 (.mov (T 0)), o 10 (.len (T 9)), o 11 (.bin .lss (T 8) (T 10))]),
              (.cond (T 11)
                .skip
                (.exit 0))]),
            (.block 1
              (.reg [o 14 (.mov (T 3)), o 15 (.mov (T 4)), o 16 (.mov (T 0)), o 17 (.mov (T 4)), o 18 (.idxAddr 2 (T 16) (T 17)), o 19 (.load true 2 (T 18)), o 20 (.call 104 [(T 19)]), o 21 (.idxAddr 2 (T 14) (T 15)), on_ (.store 2 (T 21) (T 20))])),
            (.reg [o 12 (.mov (T 4)), o 13 (.bin .add (T 12) (I 1)), o 4 (.mov (T 13))])])))]),
    (.reg [o 22 (.mov (T 3)), o 2 (.mov (T 22))]),
    .ret])
theorem ok50 : cfn Try.prog Try.f50 1 = some (s50, [.tmp 2]) := by kernel_rfl

/-! 51 laws.eqInstrS -/
def s51 : SCode :=
  (sqs [
    (.reg [o 4 (.mov (B false))]),
    (sqs [
      (.reg [o 6 (.mov (T 0)), o 7 (.len (T 6)), o 8 (.mov (T 1)), o 9 (.len (T 8)), o 10 (.bin .neq (T 7) (T 9))]),
      (.cond (T 10)
        (sqs [
          (.reg [o 4 (.mov (B false))]),
          .ret])
        .skip)]),
    (sqs [
      (.reg [o 5 (.mov (I 0))]),
      (.block 0
        (.loop
          (sqs [
            (sqs [
              (.reg [o 11 (.mov (T 5)), o 12 (.mov (T 0)), o 13 (.len (T 12)), o 14 (.bin .lss (T 11) (T 13))]),
              (.cond (T 14)
                .skip
                (.exit 0))]),
            (.block 1
              (sqs [
                (.regD [o 17 (.mov (T 0)), o 18 (.mov (T 5)), o 19 (.idxAddr 3 (T 17) (T 18)), ⟨some 20, (.load true 3 (T 19)), none, 3, []⟩, o 21 (.mov (T 1)), o 22 (.mov (T 5)), o 23 (.idxAddr 3 (T 21) (T 22)), ⟨some 24, (.load true 3 (T 23)), none, 7, []⟩, o 25 (.call 105 [(T 20), (T 24)]), o 26 (.not (T 25))]),
                (.cond (T 26)
                  (sqs [
                    (.reg [o 4 (.mov (B false))]),
                    .ret])
                  .skip)])),
            (.reg [o 15 (.mov (T 5)), o 16 (.bin .add (T 15) (I 1)), o 5 (.mov (T 16))])])))]),
    (.reg [o 4 (.mov (B true))]),
    .ret])
theorem ok51 : cfn Try.prog Try.f51 2 = some (s51, [.tmp 4]) := by kernel_rfl

/-! 52 laws.eqShotS -/
def s52 : SCode :=
  (sqs [
    (.reg [o 4 (.mov (B false))]),
    (sqs [
      (.reg [o 6 (.mov (T 0)), o 7 (.len (T 6)), o 8 (.mov (T 1)), o 9 (.len (T 8)), o 10 (.bin .neq (T 7) (T 9))]),
      (.cond (T 10)
        (sqs [
          (.reg [o 4 (.mov (B false))]),
          .ret])
        .skip)]),
    (sqs [
      (.reg [o 5 (.mov (I 0))]),
      (.block 0
        (.loop
          (sqs [
            (sqs [
              (.reg [o 11 (.mov (T 5)), o 12 (.mov (T 0)), o 13 (.len (T 12)), o 14 (.bin .lss (T 11) (T 13))]),
              (.cond (T 14)
                .skip
                (.exit 0))]),
            (.block 1
              (sqs [
                (.regD [o 17 (.mov (T 0)), o 18 (.mov (T 5)), o 19 (.idxAddr 2 (T 17) (T 18)), ⟨some 20, (.load true 2 (T 19)), none, 3, []⟩, o 21 (.mov (T 1)), o 22 (.mov (T 5)), o 23 (.idxAddr 2 (T 21) (T 22)), ⟨some 24, (.load true 2 (T 23)), none, 7, []⟩, o 25 (.call 106 [(T 20), (T 24)]), o 26 (.not (T 25))]),
                (.cond (T 26)
                  (sqs [
                    (.reg [o 4 (.mov (B false))]),
                    .ret])
                  .skip)])),
            (.reg [o 15 (.mov (T 5)), o 16 (.bin .add (T 15) (I 1)), o 5 (.mov (T 16))])])))]),
    (.reg [o 4 (.mov (B true))]),
    .ret])
theorem ok52 : cfn Try.prog Try.f52 2 = some (s52, [.tmp 4]) := by kernel_rfl

/-! 53 laws.markInstrS -/
def s53 : SCode :=
  (sqs [
    (.reg [o 4 (.mov (I 0))]),
    (sqs [
      (.reg [o 5 (.mov (I 0))]),
      (.block 0
        (.loop
          (sqs [
            (sqs [
              (.reg [o 6 (.mov (T 5)), o 7 (.mov (T 0)), o 8 (.len (T 7)), o 9 (.bin .lss (T 6) (T 8))]),
              (.cond (T 9)
                .skip
                (.exit 0))]),
            (.block 1
              (sqs [
                (.reg [o 12 (.mov (T 0)), o 13 (.mov (T 5)), o 14 (.mov (T 1)), o 15 (.idxAddr 3 (T 12) (T 13)), o 16 (.fieldAddr 0 (T 15)), on_ (.store 1 (T 16) (T 14))]),
                (.reg [o 17 (.mov (T 1)), o 18 (.bin .add (T 17) (I 1)), o 1 (.mov (T 18))]),
                (.reg [o 19 (.mov (T 0)), o 20 (.mov (T 5)), o 21 (.mov (T 1)), o 22 (.idxAddr 3 (T 19) (T 20)), o 23 (.fieldAddr 1 (T 22)), on_ (.store 1 (T 23) (T 21))]),
                (.reg [o 24 (.mov (T 1)), o 25 (.bin .add (T 24) (I 1)), o 1 (.mov (T 25))]),
                (.reg [o 26 (.mov (T 0)), o 27 (.mov (T 5)), o 28 (.mov (T 1)), o 29 (.idxAddr 3 (T 26) (T 27)), o 30 (.fieldAddr 2 (T 29)), on_ (.store 1 (T 30) (T 28))]),
                (.reg [o 31 (.mov (T 1)), o 32 (.bin .add (T 31) (I 1)), o 1 (.mov (T 32))])])),
            (.reg [o 10 (.mov (T 5)), o 11 (.bin .add (T 10) (I 1)), o 5 (.mov (T 11))])])))]),
    (.reg [o 33 (.mov (T 1)), o 4 (.mov (T 33))]),
    .ret])
theorem ok53 : cfn Try.prog Try.f53 2 = some (s53, [.tmp 4]) := by kernel_rfl

/-! 54 laws.markShotS -/
def s54 : SCode :=
  (sqs [
    (.reg [o 4 (.mov (I 0))]),
    (sqs [
      (.reg [o 5 (.mov (I 0))]),
      (.block 0
        (.loop
          (sqs [
            (sqs [
              (.reg [o 6 (.mov (T 5)), o 7 (.mov (T 0)), o 8 (.len (T 7)), o 9 (.bin .lss (T 6) (T 8))]),
              (.cond (T 9)
                .skip
                (.exit 0))]),
            (.block 1
              (sqs [
                (.reg [o 12 (.mov (T 0)), o 13 (.mov (T 5)), o 14 (.mov (T 1)), o 15 (.idxAddr 2 (T 12) (T 13)), o 16 (.fieldAddr 0 (T 15)), on_ (.store 1 (T 16) (T 14))]),
                (.reg [o 17 (.mov (T 1)), o 18 (.bin .add (T 17) (I 1)), o 1 (.mov (T 18))]),
                (.reg [o 19 (.mov (T 0)), o 20 (.mov (T 5)), o 21 (.mov (T 1)), o 22 (.idxAddr 2 (T 19) (T 20)), o 23 (.fieldAddr 1 (T 22)), on_ (.store 1 (T 23) (T 21))]),
                (.reg [o 24 (.mov (T 1)), o 25 (.bin .add (T 24) (I 1)), o 1 (.mov (T 25))])])),
            (.reg [o 10 (.mov (T 5)), o 11 (.bin .add (T 10) (I 1)), o 5 (.mov (T 11))])])))]),
    (.reg [o 26 (.mov (T 1)), o 4 (.mov (T 26))]),
    .ret])
theorem ok54 : cfn Try.prog Try.f54 2 = some (s54, [.tmp 4]) := by kernel_rfl

/-! 55 laws.heldIntS -/
def s55 : SCode :=
  (sqs [
    (.reg [o 4 (.mov (I 0))]),
    (sqs [
      (.reg [o 5 (.mov (I 0))]),
      (.block 0
        (.loop
          (sqs [
            (sqs [
              (.reg [o 6 (.mov (T 5)), o 7 (.mov (T 0)), o 8 (.len (T 7)), o 9 (.bin .lss (T 6) (T 8))]),
              (.cond (T 9)
                .skip
                (.exit 0))]),
            (.block 1
              (sqs [
                (sqs [
                  (.reg [o 12 (.mov (T 0)), o 13 (.mov (T 5)), o 14 (.idxAddr 1 (T 12) (T 13)), o 15 (.load false 1 (T 14)), o 16 (.mov (T 1)), o 17 (.bin .neq (T 15) (T 16))]),
                  (.cond (T 17)
                    (sqs [
                      (.reg [o 4 (.mov (I (-1)))]),
                      .ret])
                    .skip)]),
                (.reg [o 18 (.mov (T 1)), o 19 (.bin .add (T 18) (I 1)), o 1 (.mov (T 19))])])),
            (.reg [o 10 (.mov (T 5)), o 11 (.bin .add (T 10) (I 1)), o 5 (.mov (T 11))])])))]),
    (.reg [o 20 (.mov (T 1)), o 4 (.mov (T 20))]),
    .ret])
theorem ok55 : cfn Try.prog Try.f55 2 = some (s55, [.tmp 4]) := by kernel_rfl

/-! 56 spec.l01New -/
def s56 : SCode :=
  (sqs [
    (.reg [o 2 (.mov (.val .nilp))]),
    (.reg [o 5 (.mov (T 0)), o 6 (.len (T 5)), o 7 (.bin .add (I 98347) (T 6)), o 3 (.mov (T 7))]),
    (sqs [
      (.reg [o 4 (.mov (I 0))]),
      (.block 0
        (.loop
          (sqs [
            (sqs [
              (.reg [o 8 (.mov (T 4)), o 9 (.mov (T 0)), o 10 (.len (T 9)), o 11 (.bin .lss (T 8) (T 10)), o 12 (.mov (T 11)), og 13 (.mov (T 4)) 12 true, og 14 (.bin .lss (T 13) (I 4000)) 12 true, o 15 (.pick (T 12) (T 14) (B false))]),
              (.cond (T 15)
                .skip
                (.exit 0))]),
            (.block 1
              (.reg [o 18 (.mov (T 3)), o 19 (.bin .mul (T 18) (I 131)), o 20 (.mov (T 0)), o 21 (.mov (T 4)), o 22 (.idxAddr 1 (T 20) (T 21)), o 23 (.load false 1 (T 22)), o 24 (.conv .i64 (T 23)), o 25 (.bin .add (T 19) (T 24)), o 26 (.bin .add (T 25) (I 7)), o 27 (.bin .and (T 26) (I 1073741823)), o 3 (.mov (T 27))])),
            (.reg [o 16 (.mov (T 4)), o 17 (.bin .add (T 16) (I 1)), o 4 (.mov (T 17))])])))]),
    (.reg [o 28 (.mov (T 0)), o 29 (.mov (T 3)), o 30 (.build [.nils, (.int .i64 0), (.int .i64 0)] [(0, 1, (T 28)), (2, 1, (T 29))]), o 31 (.box 3 (T 30)), o 2 (.mov (T 31))]),
    .ret])
theorem ok56 : cfn Try.prog Try.f56 1 = some (s56, [.tmp 2]) := by kernel_rfl

/-! 57 spec.l24Pair -/
def s57 : SCode :=
  (sqs [
    (.reg [o 2 (.zero [(.int .i64 0), .nils, (.int .i64 0), (.int .i64 0), .nils, (.int .i64 0)])]),
    (.reg [o 4 (.build [(.int .i64 0), .nils, (.int .i64 0), (.int .i64 0), .nils, (.int .i64 0)] []), o 3 (.hole 6), o 3 (.birth 6 (T 3) (T 4))]),
    (sqs [
      (.reg [o 5 (.mov (T 0)), o 6 (.call 107 [(T 5), (I 4)]), o 7 (.not (T 6))]),
      (.cond (T 7)
        (.reg [o 8 (.mov (T 0)), o 9 (.call 108 [(T 8)]), o 10 (.fieldAddr 0 (T 3)), on_ (.store 3 (T 10) (T 9))])
        .skip)]),
    (sqs [
      (.reg [o 11 (.mov (T 0)), o 12 (.call 107 [(T 11), (I 4)]), o 13 (.not (T 12))]),
      (.cond (T 13)
        (.reg [o 14 (.mov (T 0)), o 15 (.call 108 [(T 14)]), o 16 (.fieldAddr 3 (T 3)), on_ (.store 3 (T 16) (T 15))])
        .skip)]),
    (.reg [o 17 (.load true 6 (T 3)), on_ (.store 6 (T 2) (T 17))]),
    .ret])
theorem ok57 : cfn Try.prog Try.f57 1 = some (s57, [.cell 2 true 6]) := by kernel_rfl

/-! 58 spec.l24Words -/
def s58 : SCode :=
  (sqs [
    (.reg [o 2 (.mov N)]),
    (.reg [o 5 (.lit 0 1 [(.int .i64 0)] []), o 3 (.mov (T 5))]),
    (sqs [
      (.reg [o 4 (.mov (I 0))]),
      (.block 0
        (.loop
          (sqs [
            (sqs [
              (.reg [o 6 (.mov (T 4)), o 7 (.bin .lss (T 6) (I 6))]),
              (.cond (T 7)
                .skip
                (.exit 0))]),
            (.block 1
              (.reg [o 10 (.mov (T 3)), o 11 (.mov (T 0)), o 12 (.call 59 [(T 11), (I 2000)]), o 13 (.bin .sub (T 12) (I 500)), o 14 (.lit 1 1 [(.int .i64 0)] [(0, (T 13))]), o 15 (.append 1 8 (T 10) (T 14)), o 3 (.mov (T 15))])),
            (.reg [o 8 (.mov (T 4)), o 9 (.bin .add (T 8) (I 1)), o 4 (.mov (T 9))])])))]),
    (.reg [o 16 (.mov (T 3)), o 2 (.mov (T 16))]),
    .ret])
theorem ok58 : cfn Try.prog Try.f58 1 = some (s58, [.tmp 2]) := by kernel_rfl

/-! 59 spec.l01Below -/
def s59 : SCode :=
  (sqs [
    (.reg [o 4 (.mov (I 0))]),
    (sqs [
      (.reg [o 9 (.mov (T 1)), o 10 (.bin .leq (T 9) (I 0))]),
      (.cond (T 10)
        (sqs [
          (.reg [o 4 (.mov (I 0))]),
          .ret])
        .skip)]),
    (sqs [
      (.reg [o 11 (.mov (T 1)), o 12 (.bin .leq (T 11) (I 256))]),
      (.cond (T 12)
        (sqs [
          (.reg [o 13 (.mov (T 0)), o 14 (.call 109 [(T 13)]), o 15 (.mov (T 1)), o 16 (.bin .rem (T 14) (T 15)), o 4 (.mov (T 16))]),
          .ret])
        .skip)]),
    (.reg [o 17 (.mov (T 0)), o 18 (.call 109 [(T 17)]), o 5 (.mov (T 18))]),
    (.reg [o 19 (.mov (T 0)), o 20 (.call 109 [(T 19)]), o 6 (.mov (T 20))]),
    (.reg [o 21 (.mov (T 0)), o 22 (.call 109 [(T 21)]), o 7 (.mov (T 22))]),
    (.reg [o 23 (.mov (T 0)), o 24 (.call 109 [(T 23)]), o 8 (.mov (T 24))]),
    (.reg [o 25 (.mov (T 5)), o 26 (.bin .mul (T 25) (I 16777216)), o 27 (.mov (T 6)), o 28 (.bin .mul (T 27) (I 65536)), o 29 (.bin .add (T 26) (T 28)), o 30 (.mov (T 7)), o 31 (.bin .mul (T 30) (I 256)), o 32 (.bin .add (T 29) (T 31)), o 33 (.mov (T 8)), o 34 (.bin .add (T 32) (T 33)), o 35 (.mov (T 1)), o 36 (.bin .rem (T 34) (T 35)), o 4 (.mov (T 36))]),
    .ret])
theorem ok59 : cfn Try.prog Try.f59 2 = some (s59, [.tmp 4]) := by kernel_rfl

/-! 60 impl.modulo -/
def s60 : SCode :=
  (sqs [
    (.reg [o 4 (.mov (I 0))]),
    (.reg [o 5 (.mov (T 0)), o 6 (.mov (T 1)), o 7 (.bin .rem (T 5) (T 6)), o 8 (.mov (T 1)), o 9 (.bin .add (T 7) (T 8)), o 10 (.mov (T 1)), o 11 (.bin .rem (T 9) (T 10)), o 4 (.mov (T 11))]),
    .ret])
theorem ok60 : cfn Try.prog Try.f60 2 = some (s60, [.tmp 4]) := by kernel_rfl

/-! 61 spec.l23Energies -/
def s61 : SCode :=
  (sqs [
    (.reg [o 2 (.box 4 (T 0)), o 4 (.mov N), o 5 (.mov (B false))]),
    (.reg [o 9 (.load true 4 (T 2)), o 10 (.mov (T 1)), o 11 (.call 110 [(T 9), (T 10)]), o 8 (.mov (T 11)), o 12 (.ext 0 (T 8)), o 13 (.ext 1 (T 8)), o 6 (.mov (T 12)), o 7 (.mov (T 13))]),
    (sqs [
      (.reg [o 14 (.mov (T 6)), o 15 (.len (T 14)), o 16 (.bin .gtr (T 15) (I 60))]),
      (.cond (T 16)
        (.reg [o 17 (.lit 0 1 [(.int .i64 0)] []), o 18 (.mov (T 6)), o 19 (.slice 1 (T 18) none (some (I 60))), o 20 (.append 1 8 (T 17) (T 19)), o 6 (.mov (T 20))])
        .skip)]),
    (.reg [o 21 (.mov (T 6)), o 22 (.mov (T 7)), o 4 (.mov (T 21)), o 5 (.mov (T 22))]),
    .ret])
theorem ok61 : cfn Try.prog Try.f61 2 = some (s61, [.tmp 4, .tmp 5]) := by kernel_rfl

/-! 62 impl.EnergiesOf -/
def s62 : SCode :=
  (sqs [
    (.reg [o 2 (.box 4 (T 0)), o 4 (.mov N), o 5 (.mov (B false))]),
    (.reg [o 10 (.load true 4 (T 2)), o 11 (.mov (T 1)), o 12 (.call 111 [(T 10), (T 11)]), o 9 (.mov (T 12)), o 13 (.ext 0 (T 9)), o 14 (.ext 1 (T 9)), o 15 (.ext 2 (T 9)), o 6 (.mov (T 13)), o 7 (.mov (T 14)), o 8 (.mov (T 15))]),
    (.reg [o 16 (.mov (T 6)), o 17 (.mov (T 8)), o 4 (.mov (T 16)), o 5 (.mov (T 17))]),
    .ret])
theorem ok62 : cfn Try.prog Try.f62 2 = some (s62, [.tmp 4, .tmp 5]) := by kernel_rfl

/-! 63 impl.newest -/
def s63 : SCode :=
  (sqs [
    (.reg [o 1 (.box 6 (T 0)), o 2 (.mov (I 0))]),
    (.regD [o 5 (.fieldAddr 0 (T 1)), ⟨some 6, (.load true 3 (T 5)), none, 1, []⟩, o 8 (.fieldAddr 3 (T 1)), ⟨some 9, (.load true 3 (T 8)), none, 4, []⟩, ⟨some 7, (.call 112 [(T 6)]), none, 0, [4]⟩, o 10 (.call 112 [(T 9)]), o 3 (.mov (T 7)), o 4 (.mov (T 10))]),
    (.block 0
      (sqs [
        (.reg [o 12 (.mov (T 3)), o 13 (.mov (T 12)), og 14 (.mov (T 4)) 13 true, og 15 (.not (T 14)) 13 true, og 16 (.mov (T 15)) 13 true, og 17 (.fieldAddr 0 (T 1)) 16 false, og 18 (.fieldAddr 0 (T 17)) 16 false, og 19 (.load false 1 (T 18)) 16 false, og 20 (.fieldAddr 3 (T 1)) 16 false, og 21 (.fieldAddr 0 (T 20)) 16 false, og 22 (.load false 1 (T 21)) 16 false, og 23 (.bin .geq (T 19) (T 22)) 16 false, og 24 (.pick (T 16) (B true) (T 23)) 13 true, o 25 (.pick (T 13) (T 24) (B false)), o 11 (.mov (T 25))]),
        (.cond (T 11)
          (sqs [
            (.reg [o 2 (.mov (I 0))]),
            .ret])
          (sqs [
            (.reg [o 27 (.mov (T 4)), o 26 (.mov (T 27))]),
            (.cond (T 26)
              (sqs [
                (.reg [o 2 (.mov (I 1))]),
                .ret])
              .skip)]))])),
    (.reg [o 2 (.mov (I (-1)))]),
    .ret])
theorem ok63 : cfn Try.prog Try.f63 1 = some (s63, [.tmp 2]) := by kernel_rfl

/-! 64 impl.copySlot -/
def s64 : SCode :=
  (sqs [
    (.reg [o 1 (.box 3 (T 0)), o 2 (.zero [(.int .i64 0), .nils, (.int .i64 0)])]),
    (.reg [o 3 (.fieldAddr 1 (T 1)), o 4 (.load false 1 (T 3)), o 5 (.call 113 [(T 4)]), o 6 (.fieldAddr 1 (T 1)), on_ (.store 1 (T 6) (T 5))]),
    (.reg [o 7 (.load true 3 (T 1)), on_ (.store 3 (T 2) (T 7))]),
    .ret])
theorem ok64 : cfn Try.prog Try.f64 1 = some (s64, [.cell 2 true 3]) := by kernel_rfl

/-! 65 impl.copyPair -/
def s65 : SCode :=
  (sqs [
    (.reg [o 1 (.box 6 (T 0)), o 2 (.zero [(.int .i64 0), .nils, (.int .i64 0), (.int .i64 0), .nils, (.int .i64 0)])]),
    (.regD [o 3 (.fieldAddr 0 (T 1)), ⟨some 4, (.load true 3 (T 3)), none, 1, []⟩, o 6 (.fieldAddr 3 (T 1)), ⟨some 7, (.load true 3 (T 6)), none, 4, []⟩, ⟨some 5, (.call 64 [(T 4)]), none, 0, [4]⟩, o 8 (.call 64 [(T 7)]), o 9 (.build [(.int .i64 0), .nils, (.int .i64 0), (.int .i64 0), .nils, (.int .i64 0)] [(0, 3, (T 5)), (3, 3, (T 8))]), on_ (.store 6 (T 2) (T 9))]),
    .ret])
theorem ok65 : cfn Try.prog Try.f65 1 = some (s65, [.cell 2 true 6]) := by kernel_rfl

/-! 66 (*impl.Slot).saveSome -/
def s66 : SCode :=
  (sqs [
    (.reg [o 6 (.mov (T 1)), o 7 (.len (T 6)), o 8 (.mov (I 0))]),
    (.block 0
      (.loop
        (sqs [
          (.reg [o 9 (.bin .lss (T 8) (T 7))]),
          (.cond (T 9)
            .skip
            (.exit 0)),
          (.block 1
            (sqs [
              (.reg [o 10 (.mov (T 8)), o 11 (.idxAddr 1 (T 6) (T 8)), o 12 (.load false 1 (T 11)), o 4 (.mov (T 10)), o 5 (.mov (T 12))]),
              (sqs [
                (.reg [o 13 (.mov (T 4)), o 14 (.bin .eql (T 13) (I 1)), o 15 (.mov (T 14)), og 16 (.mov (T 0)) 15 true, og 17 (.nilchk (T 16)) 15 true, og 18 (.fieldAddr 1 (T 17)) 15 true, og 19 (.load false 1 (T 18)) 15 true, og 20 (.len (T 19)) 15 true, og 21 (.bin .neq (T 20) (I 6)) 15 true, o 22 (.pick (T 15) (T 21) (B false))]),
                (.cond (T 22)
                  (.reg [o 23 (.mov (T 0)), o 24 (.make 1 8 [(.int .i64 0)] (I 6)), o 25 (.nilchk (T 23)), o 26 (.fieldAddr 1 (T 25)), on_ (.store 1 (T 26) (T 24))])
                  .skip)]),
              (.block 2
                (sqs [
                  (.reg [o 36 (.mov (T 4)), o 37 (.bin .eql (T 36) (I 0)), o 38 (.mov (T 37)), og 39 (.mov (T 4)) 38 false, og 40 (.bin .eql (T 39) (I 8)) 38 false, o 41 (.pick (T 38) (B true) (T 40)), o 35 (.mov (T 41))]),
                  (.cond (T 35)
                    (.reg [o 42 (.mov (T 0)), o 43 (.mov (T 5)), o 44 (.nilchk (T 42)), o 45 (.fieldAddr 0 (T 44)), on_ (.store 1 (T 45) (T 43))])
                    (sqs [
                      (.reg [o 47 (.mov (T 4)), o 48 (.bin .eql (T 47) (I 7)), o 46 (.mov (T 48))]),
                      (.cond (T 46)
                        (.reg [o 49 (.mov (T 0)), o 50 (.mov (T 5)), o 51 (.nilchk (T 49)), o 52 (.fieldAddr 2 (T 51)), on_ (.store 1 (T 52) (T 50))])
                        (.reg [o 27 (.mov (T 0)), o 28 (.nilchk (T 27)), o 29 (.fieldAddr 1 (T 28)), o 30 (.load false 1 (T 29)), o 31 (.mov (T 4)), o 32 (.bin .sub (T 31) (I 1)), o 33 (.mov (T 5)), o 34 (.idxAddr 1 (T 30) (T 32)), on_ (.store 1 (T 34) (T 33))]))]))]))])),
          (.reg [o 53 (.bin .add (T 8) (I 1)), o 8 (.mov (T 53))])])))])
theorem ok66 : cfn Try.prog Try.f66 2 = some (s66, []) := by kernel_rfl

/-! 67 impl.bit -/
def s67 : SCode :=
  (sqs [
    (.reg [o 2 (.mov (I 0))]),
    (sqs [
      (.reg [o 3 (.mov (T 0))]),
      (.cond (T 3)
        (sqs [
          (.reg [o 2 (.mov (I 1))]),
          .ret])
        .skip)]),
    (.reg [o 2 (.mov (I 0))]),
    .ret])
theorem ok67 : cfn Try.prog Try.f67 1 = some (s67, [.tmp 2]) := by kernel_rfl

/-! 68 spec.l25Code -/
def s68 : SCode :=
  (sqs [
    (.reg [o 2 (.mov N)]),
    (.reg [o 7 (.lit 0 3 [(.int .i64 0), (.int .i64 0), (.int .i64 0)] []), o 3 (.mov (T 7))]),
    (.reg [o 8 (.mov (T 0)), o 9 (.call 59 [(T 8), (I 8)]), o 10 (.bin .add (I 1) (T 9)), o 4 (.mov (T 10))]),
    (sqs [
      (.reg [o 5 (.mov (I 0))]),
      (.block 0
        (.loop
          (sqs [
            (sqs [
              (.reg [o 11 (.mov (T 5)), o 12 (.mov (T 4)), o 13 (.bin .lss (T 11) (T 12))]),
              (.cond (T 13)
                .skip
                (.exit 0))]),
            (.block 1
              (sqs [
                (.reg [o 16 (.mov (T 0)), o 17 (.call 59 [(T 16), (I 5)]), o 18 (.bin .add (I 1) (T 17)), o 19 (.mov (T 0)), o 20 (.call 59 [(T 19), (I 4)]), o 21 (.mov (T 0)), o 22 (.call 59 [(T 21), (I 4)]), o 23 (.build [(.int .i64 0), (.int .i64 0), (.int .i64 0)] [(0, 1, (T 18)), (1, 1, (T 20)), (2, 1, (T 22))]), o 6 (.hole 3), o 6 (.birth 3 (T 6) (T 23))]),
                (sqs [
                  (.reg [o 24 (.fieldAddr 0 (T 6)), o 25 (.load false 1 (T 24)), o 26 (.bin .eql (T 25) (I 5))]),
                  (.cond (T 26)
                    (.reg [o 27 (.mov (T 0)), o 28 (.mov (T 4)), o 29 (.bin .add (T 28) (I 1)), o 30 (.call 59 [(T 27), (T 29)]), o 31 (.fieldAddr 2 (T 6)), on_ (.store 1 (T 31) (T 30))])
                    .skip)]),
                (.reg [o 32 (.mov (T 3)), o 33 (.load true 3 (T 6)), o 34 (.lit 1 3 [(.int .i64 0), (.int .i64 0), (.int .i64 0)] [(0, (T 33))]), o 35 (.append 3 24 (T 32) (T 34)), o 3 (.mov (T 35))])])),
            (.reg [o 14 (.mov (T 5)), o 15 (.bin .add (T 14) (I 1)), o 5 (.mov (T 15))])])))]),
    (.reg [o 36 (.mov (T 3)), o 2 (.mov (T 36))]),
    .ret])
theorem ok68 : cfn Try.prog Try.f68 1 = some (s68, [.tmp 2]) := by kernel_rfl

/-! 69 spec.l25Shots -/
def s69 : SCode :=
  (sqs [
    (.reg [o 2 (.mov N)]),
    (.reg [o 5 (.lit 0 2 [(.int .i64 0), (.int .i64 0)] []), o 3 (.mov (T 5))]),
    (sqs [
      (.reg [o 4 (.mov (I 0))]),
      (.block 0
        (.loop
          (sqs [
            (sqs [
              (.reg [o 6 (.mov (T 4)), o 7 (.mov (T 0)), o 8 (.call 59 [(T 7), (I 8)]), o 9 (.bin .lss (T 6) (T 8))]),
              (.cond (T 9)
                .skip
                (.exit 0))]),
            (.block 1
              (.reg [o 12 (.mov (T 3)), o 13 (.mov (T 0)), o 14 (.call 59 [(T 13), (I 12)]), o 15 (.mov (T 0)), o 16 (.mov (T 0)), o 17 (.call 59 [(T 16), (I 10)]), o 18 (.lit 6 1 [(.int .i64 0)] [(0, (I 9)), (1, (I 9)), (2, (I 9)), (3, (I 8)), (4, (I 0)), (5, (T 17))]), o 19 (.call 114 [(T 15), (T 18)]), o 20 (.build [(.int .i64 0), (.int .i64 0)] [(0, 1, (T 14)), (1, 1, (T 19))]), o 21 (.lit 1 2 [(.int .i64 0), (.int .i64 0)] [(0, (T 20))]), o 22 (.append 2 16 (T 12) (T 21)), o 3 (.mov (T 22))])),
            (.reg [o 10 (.mov (T 4)), o 11 (.bin .add (T 10) (I 1)), o 4 (.mov (T 11))])])))]),
    (.reg [o 23 (.mov (T 3)), o 2 (.mov (T 23))]),
    .ret])
theorem ok69 : cfn Try.prog Try.f69 1 = some (s69, [.tmp 2]) := by kernel_rfl

/-! 70 impl.CodeOk -/
def s70 : SCode :=
  (sqs [
    (.reg [o 2 (.mov (B false))]),
    (sqs [
      (.reg [o 6 (.mov (T 0)), o 7 (.len (T 6)), o 8 (.call 73 [(T 7), (I 1), (I 16)]), o 9 (.not (T 8))]),
      (.cond (T 9)
        (sqs [
          (.reg [o 2 (.mov (B false))]),
          .ret])
        .skip)]),
    (sqs [
      (.reg [o 10 (.mov (T 0)), o 11 (.len (T 10)), o 12 (.mov (I 0))]),
      (.block 0
        (.loop
          (sqs [
            (.reg [o 13 (.bin .lss (T 12) (T 11))]),
            (.cond (T 13)
              .skip
              (.exit 0)),
            (.block 1
              (sqs [
                (.reg [o 14 (.idxAddr 3 (T 10) (T 12)), o 15 (.load true 3 (T 14)), o 4 (.hole 3), o 4 (.birth 3 (T 4) (T 15))]),
                (.reg [o 5 (.mov (I 3))]),
                (sqs [
                  (.reg [o 16 (.fieldAddr 0 (T 4)), o 17 (.load false 1 (T 16))]),
                  (.block 2
                    (sqs [
                      (.reg [o 19 (.bin .eql (T 17) (I 1)), o 18 (.mov (T 19))]),
                      (.cond (T 18)
                        (.reg [o 5 (.mov (I 999))])
                        (sqs [
                          (.reg [o 21 (.bin .eql (T 17) (I 5)), o 20 (.mov (T 21))]),
                          (.cond (T 20)
                            (.reg [o 22 (.mov (T 0)), o 23 (.len (T 22)), o 5 (.mov (T 23))])
                            .skip)]))]))]),
                (.reg [o 24 (.fieldAddr 0 (T 4)), o 25 (.load false 1 (T 24)), o 26 (.call 73 [(T 25), (I 1), (I 5)]), o 27 (.not (T 26)), o 28 (.mov (T 27)), og 29 (.fieldAddr 1 (T 4)) 28 false, og 30 (.load false 1 (T 29)) 28 false, og 31 (.call 73 [(T 30), (I 0), (I 3)]) 28 false, og 32 (.not (T 31)) 28 false, o 33 (.pick (T 28) (B true) (T 32)), o 34 (.mov (T 33)), og 35 (.fieldAddr 2 (T 4)) 34 false, og 36 (.load false 1 (T 35)) 34 false, og 37 (.mov (T 5)) 34 false, og 38 (.call 73 [(T 36), (I 0), (T 37)]) 34 false, og 39 (.not (T 38)) 34 false, o 40 (.pick (T 34) (B true) (T 39))]),
                (.cond (T 40)
                  (sqs [
                    (.reg [o 2 (.mov (B false))]),
                    .ret])
                  .skip)])),
            (.reg [o 41 (.bin .add (T 12) (I 1)), o 12 (.mov (T 41))])])))]),
    (.reg [o 2 (.mov (B true))]),
    .ret])
theorem ok70 : cfn Try.prog Try.f70 1 = some (s70, [.tmp 2]) := by kernel_rfl

/-! 71 slices.ContainsFunc[[]impl.Shot,impl.Shot] -/
def s71 : SCode :=
  (sqs [
    (.reg [o 4 (.mov (B false))]),
    (.reg [o 5 (.mov (T 0)), o 6 (.mov (T 1)), o 7 (.call 115 [(T 5), (T 6)]), o 8 (.bin .geq (T 7) (I 0)), o 4 (.mov (T 8))]),
    .ret])
theorem ok71 : cfn Try.prog Try.f71 2 = some (s71, [.tmp 4]) := by kernel_rfl

/-! 72 impl.JitRun$1 -/
def s72 : SCode :=
  (sqs [
    (.reg [o 1 (.box 2 (T 0)), o 2 (.mov (B false))]),
    (.reg [o 3 (.fieldAddr 0 (T 1)), o 4 (.load false 1 (T 3)), o 5 (.call 73 [(T 4), (I 0), (I 40)]), o 6 (.not (T 5)), o 7 (.mov (T 6)), og 8 (.fieldAddr 1 (T 1)) 7 false, og 9 (.load false 1 (T 8)) 7 false, og 10 (.call 73 [(T 9), (I 0), (I 9)]) 7 false, og 11 (.not (T 10)) 7 false, o 12 (.pick (T 7) (B true) (T 11)), o 2 (.mov (T 12))]),
    .ret])
theorem ok72 : cfn Try.prog Try.f72 1 = some (s72, [.tmp 2]) := by kernel_rfl

/-! 73 impl.within -/
def s73 : SCode :=
  (sqs [
    (.reg [o 6 (.mov (B false))]),
    (.reg [o 7 (.mov (T 0)), o 8 (.mov (T 1)), o 9 (.bin .geq (T 7) (T 8)), o 10 (.mov (T 9)), og 11 (.mov (T 0)) 10 true, og 12 (.mov (T 2)) 10 true, og 13 (.bin .leq (T 11) (T 12)) 10 true, o 14 (.pick (T 10) (T 13) (B false)), o 6 (.mov (T 14))]),
    .ret])
theorem ok73 : cfn Try.prog Try.f73 3 = some (s73, [.tmp 6]) := by kernel_rfl

/-! 74 impl.stepsOf -/
def s74 : SCode :=
  (sqs [
    (.reg [o 6 (.mov N)]),
    (sqs [
      (.reg [o 9 (.mov (T 2)), o 10 (.mov (I 0))]),
      (.block 0
        (.loop
          (sqs [
            (.reg [o 11 (.bin .lss (T 10) (T 9))]),
            (.cond (T 11)
              .skip
              (.exit 0)),
            (.block 1
              (sqs [
                (.reg [o 13 (.mov (T 0)), o 14 (.mov (T 1)), o 15 (.call 116 [(T 13), (T 14)]), o 12 (.mov (T 15)), o 16 (.ext 0 (T 12)), o 17 (.ext 1 (T 12)), o 7 (.mov (T 16)), o 8 (.mov (T 17))]),
                (sqs [
                  (.reg [o 18 (.mov (T 8)), o 19 (.not (T 18))]),
                  (.cond (T 19)
                    (.exit 0)
                    .skip)]),
                (.reg [o 20 (.mov (T 7)), o 1 (.mov (T 20))])])),
            (.reg [o 21 (.bin .add (T 10) (I 1)), o 10 (.mov (T 21))])])))]),
    (.reg [o 22 (.mov (T 1)), o 6 (.mov (T 22))]),
    .ret])
theorem ok74 : cfn Try.prog Try.f74 3 = some (s74, [.tmp 6]) := by kernel_rfl

/-! 75 impl.newestWords -/
def s75 : SCode :=
  (sqs [
    (.reg [o 1 (.box 6 (T 0)), o 2 (.mov N)]),
    (.reg [o 6 (.load true 6 (T 1)), o 7 (.call 21 [(T 6)]), o 5 (.mov (T 7)), o 8 (.ext 0 (T 5)), o 9 (.ext 1 (T 5)), o 3 (.hole 3), o 3 (.birth 3 (T 3) (T 8)), o 4 (.mov (T 9))]),
    (sqs [
      (.reg [o 10 (.mov (T 4)), o 11 (.not (T 10))]),
      (.cond (T 11)
        (sqs [
          (.reg [o 12 (.make 1 8 [(.int .i64 0)] (I 6)), o 2 (.mov (T 12))]),
          .ret])
        .skip)]),
    (.reg [o 13 (.fieldAddr 1 (T 3)), o 14 (.load false 1 (T 13)), o 2 (.mov (T 14))]),
    .ret])
theorem ok75 : cfn Try.prog Try.f75 1 = some (s75, [.tmp 2]) := by kernel_rfl

/-! 76 spec.l26Device -/
-- NOT TOLD 76
/-! 77 impl.copyDevice -/
def s77 : SCode :=
  (sqs [
    (.reg [o 1 (.box 2 (T 0)), o 2 (.zero [.nils, .nils])]),
    (.regD [o 3 (.fieldAddr 0 (T 1)), ⟨some 4, (.load false 1 (T 3)), none, 1, []⟩, o 6 (.fieldAddr 1 (T 1)), ⟨some 7, (.load false 1 (T 6)), none, 4, []⟩, ⟨some 5, (.call 113 [(T 4)]), none, 0, [4]⟩, o 8 (.call 118 [(T 7)]), o 9 (.build [.nils, .nils] [(0, 1, (T 5)), (1, 1, (T 8))]), on_ (.store 2 (T 2) (T 9))]),
    .ret])
theorem ok77 : cfn Try.prog Try.f77 1 = some (s77, [.cell 2 true 2]) := by kernel_rfl

/-! 78 impl.DeviceOk -/
def s78 : SCode :=
  (sqs [
    (.reg [o 1 (.box 2 (T 0)), o 2 (.mov (B false))]),
    (sqs [
      (.reg [o 5 (.fieldAddr 1 (T 1)), o 6 (.load false 1 (T 5)), o 7 (.len (T 6)), o 8 (.mov (I 0))]),
      (.block 0
        (.loop
          (sqs [
            (.reg [o 9 (.bin .lss (T 8) (T 7))]),
            (.cond (T 9)
              .skip
              (.exit 0)),
            (.block 1
              (sqs [
                (.reg [o 10 (.mov (T 8)), o 11 (.idxAddr 2 (T 6) (T 8)), o 12 (.load true 2 (T 11)), o 4 (.hole 2), o 3 (.mov (T 10)), o 4 (.birth 2 (T 4) (T 12))]),
                (.regD [o 13 (.load true 2 (T 4)), o 14 (.call 79 [(T 13)]), o 15 (.not (T 14)), o 16 (.mov (T 15)), og 17 (.mov (T 3)) 16 false, og 18 (.bin .gtr (T 17) (I 0)) 16 false, og 19 (.mov (T 18)) 16 false, og 20 (.fieldAddr 0 (T 4)) 19 true, ⟨some 21, (.load false 1 (T 20)), some (19, true), 8, []⟩, og 22 (.fieldAddr 1 (T 1)) 19 true, ⟨some 23, (.load false 1 (T 22)), some (19, true), 10, []⟩, og 24 (.mov (T 3)) 19 true, og 25 (.bin .sub (T 24) (I 1)) 19 true, og 26 (.idxAddr 2 (T 23) (T 25)) 19 true, og 27 (.fieldAddr 0 (T 26)) 19 true, ⟨some 28, (.load false 1 (T 27)), some (19, true), 15, []⟩, og 29 (.bin .leq (T 21) (T 28)) 19 true, og 30 (.pick (T 19) (T 29) (B false)) 16 false, o 31 (.pick (T 16) (B true) (T 30))]),
                (.cond (T 31)
                  (sqs [
                    (.reg [o 2 (.mov (B false))]),
                    .ret])
                  .skip)])),
            (.reg [o 32 (.bin .add (T 8) (I 1)), o 8 (.mov (T 32))])])))]),
    (.reg [o 33 (.fieldAddr 0 (T 1)), o 34 (.load false 1 (T 33)), o 35 (.len (T 34)), o 36 (.bin .eql (T 35) (I 4)), o 37 (.mov (T 36)), og 38 (.fieldAddr 0 (T 1)) 37 true, og 39 (.load false 1 (T 38)) 37 true, og 40 (.call 119 [(T 39)]) 37 true, o 41 (.pick (T 37) (T 40) (B false)), o 2 (.mov (T 41))]),
    .ret])
theorem ok78 : cfn Try.prog Try.f78 1 = some (s78, [.tmp 2]) := by kernel_rfl

/-! 79 impl.isSetting -/
def s79 : SCode :=
  (sqs [
    (.reg [o 1 (.box 2 (T 0)), o 2 (.mov (B false))]),
    (.reg [o 3 (.fieldAddr 0 (T 1)), o 4 (.load false 1 (T 3)), o 5 (.call 73 [(T 4), (I 0), (I 3)]), o 6 (.mov (T 5)), og 7 (.fieldAddr 1 (T 1)) 6 true, og 8 (.load false 1 (T 7)) 6 true, og 9 (.call 120 [(T 8)]) 6 true, o 10 (.pick (T 6) (T 9) (B false)), o 2 (.mov (T 10))]),
    .ret])
theorem ok79 : cfn Try.prog Try.f79 1 = some (s79, [.tmp 2]) := by kernel_rfl

/-! 80 (*impl.Device).keep -/
def s80 : SCode :=
  (sqs [
    (.reg [o 3 (.box 2 (T 1))]),
    (.reg [o 5 (.mov (T 0)), o 6 (.nilchk (T 5)), o 7 (.fieldAddr 1 (T 6)), o 8 (.load false 1 (T 7)), o 9 (.mkfn 122 [(T 3)]), o 10 (.call 121 [(T 8), (T 9)]), o 4 (.mov (T 10))]),
    (.block 0
      (sqs [
        (.reg [o 23 (.mov (T 4)), o 24 (.bin .lss (T 23) (I 0)), o 22 (.mov (T 24))]),
        (.cond (T 22)
          (.regD [o 25 (.mov (T 0)), o 26 (.mov (T 0)), o 27 (.nilchk (T 26)), o 28 (.fieldAddr 1 (T 27)), ⟨some 29, (.load false 1 (T 28)), none, 4, []⟩, ⟨some 30, (.load true 2 (T 3)), none, 5, []⟩, ⟨some 31, (.lit 1 2 [(.int .i64 0), (.int .i64 0)] [(0, (T 30))]), none, 0, [4]⟩, o 32 (.append 2 16 (T 29) (T 31)), o 33 (.nilchk (T 25)), o 34 (.fieldAddr 1 (T 33)), on_ (.store 1 (T 34) (T 32))])
          (sqs [
            (.regD [o 36 (.mov (T 0)), o 37 (.nilchk (T 36)), o 38 (.fieldAddr 1 (T 37)), ⟨some 39, (.load false 1 (T 38)), none, 3, []⟩, o 40 (.mov (T 4)), o 41 (.idxAddr 2 (T 39) (T 40)), o 42 (.fieldAddr 0 (T 41)), ⟨some 43, (.load false 1 (T 42)), none, 7, []⟩, o 44 (.fieldAddr 0 (T 3)), ⟨some 45, (.load false 1 (T 44)), none, 9, []⟩, o 46 (.bin .eql (T 43) (T 45)), o 35 (.mov (T 46))]),
            (.cond (T 35)
              (.regD [o 47 (.mov (T 0)), o 48 (.nilchk (T 47)), o 49 (.fieldAddr 1 (T 48)), ⟨some 50, (.load false 1 (T 49)), none, 3, []⟩, o 51 (.mov (T 4)), ⟨some 52, (.load true 2 (T 3)), none, 5, []⟩, o 53 (.idxAddr 2 (T 50) (T 51)), on_ (.store 2 (T 53) (T 52))])
              (.regD [o 11 (.mov (T 0)), o 12 (.mov (T 0)), o 13 (.nilchk (T 12)), o 14 (.fieldAddr 1 (T 13)), ⟨some 15, (.load false 1 (T 14)), none, 4, []⟩, o 16 (.mov (T 4)), ⟨some 17, (.load true 2 (T 3)), none, 6, []⟩, ⟨some 18, (.lit 1 2 [(.int .i64 0), (.int .i64 0)] [(0, (T 17))]), none, 0, [4]⟩, o 19 (.call 123 [(T 15), (T 16), (T 18)]), o 20 (.nilchk (T 11)), o 21 (.fieldAddr 1 (T 20)), on_ (.store 1 (T 21) (T 19))]))]))]))])
theorem ok80 : cfn Try.prog Try.f80 2 = some (s80, []) := by kernel_rfl

/-! 81 laws.szSlot -/
def s81 : SCode :=
  (sqs [
    (.reg [o 2 (.box 3 (T 0)), o 4 (.mov (I 0))]),
    (.reg [o 5 (.fieldAddr 1 (T 2)), o 6 (.load false 1 (T 5)), o 7 (.mov (T 1)), o 8 (.call 89 [(T 6), (T 7)]), o 1 (.mov (T 8))]),
    (sqs [
      (.reg [o 9 (.mov (T 1)), o 10 (.bin .lss (T 9) (I 0))]),
      (.cond (T 10)
        (sqs [
          (.reg [o 4 (.mov (I (-1)))]),
          .ret])
        .skip)]),
    (.reg [o 11 (.mov (T 1)), o 4 (.mov (T 11))]),
    .ret])
theorem ok81 : cfn Try.prog Try.f81 2 = some (s81, [.tmp 4]) := by kernel_rfl

/-! 82 spec.l24Copy -/
def s82 : SCode :=
  (sqs [
    (.reg [o 1 (.box 3 (T 0)), o 2 (.zero [(.int .i64 0), .nils, (.int .i64 0)])]),
    (.regD [o 3 (.fieldAddr 0 (T 1)), ⟨some 4, (.load false 1 (T 3)), none, 1, []⟩, o 6 (.fieldAddr 1 (T 1)), ⟨some 7, (.load false 1 (T 6)), none, 4, []⟩, o 9 (.fieldAddr 2 (T 1)), ⟨some 10, (.load false 1 (T 9)), none, 7, []⟩, ⟨some 5, (.lit 0 1 [(.int .i64 0)] []), none, 0, [1, 4, 7]⟩, ⟨some 8, (.append 1 8 (T 5) (T 7)), none, 0, [1, 7]⟩, o 11 (.build [(.int .i64 0), .nils, (.int .i64 0)] [(0, 1, (T 4)), (1, 1, (T 8)), (2, 1, (T 10))]), on_ (.store 3 (T 2) (T 11))]),
    .ret])
theorem ok82 : cfn Try.prog Try.f82 1 = some (s82, [.cell 2 true 3]) := by kernel_rfl

/-! 83 spec.SaveWrites -/
def s83 : SCode :=
  (sqs [
    (.reg [o 2 (.box 6 (T 0)), o 4 (.mov N), o 5 (.mov (I 0)), o 6 (.mov (B false))]),
    (.reg [o 13 (.load true 6 (T 2)), o 14 (.call 124 [(T 13)]), o 12 (.mov (T 14)), o 15 (.ext 0 (T 12)), o 16 (.ext 1 (T 12)), o 7 (.hole 3), o 7 (.birth 3 (T 7) (T 15)), o 8 (.mov (T 16))]),
    (.reg [o 9 (.mov (I 1))]),
    (sqs [
      (.reg [o 17 (.mov (T 8))]),
      (.cond (T 17)
        (sqs [
          (sqs [
            (.reg [o 18 (.fieldAddr 0 (T 7)), o 19 (.load false 1 (T 18)), o 20 (.bin .geq (T 19) (I 1000000))]),
            (.cond (T 20)
              (sqs [
                (.reg [o 21 (.lit 0 1 [(.int .i64 0)] []), o 4 (.mov (T 21)), o 5 (.mov (I 0)), o 6 (.mov (B false))]),
                .ret])
              .skip)]),
          (.reg [o 22 (.fieldAddr 0 (T 7)), o 23 (.load false 1 (T 22)), o 24 (.bin .add (T 23) (I 1)), o 9 (.mov (T 24))])])
        .skip)]),
    (sqs [
      (.reg [o 25 (.mov (T 1)), o 26 (.len (T 25)), o 27 (.bin .neq (T 26) (I 6))]),
      (.cond (T 27)
        (sqs [
          (.reg [o 28 (.lit 0 1 [(.int .i64 0)] []), o 4 (.mov (T 28)), o 5 (.mov (I 0)), o 6 (.mov (B false))]),
          .ret])
        .skip)]),
    (.reg [o 29 (.lit 1 1 [(.int .i64 0)] [(0, (I 0))]), o 30 (.mov (T 1)), o 31 (.append 1 8 (T 29) (T 30)), o 10 (.mov (T 31))]),
    (.reg [o 11 (.mov (I 0))]),
    (sqs [
      (.reg [o 32 (.load true 6 (T 2)), o 33 (.call 125 [(T 32)]), o 34 (.bin .eql (T 33) (I 0))]),
      (.cond (T 34)
        (.reg [o 11 (.mov (I 1))])
        .skip)]),
    (.reg [o 35 (.mov (T 10)), o 36 (.mov (T 9)), o 37 (.mov (T 1)), o 38 (.call 126 [(T 36), (T 37)]), o 39 (.mov (T 9)), o 40 (.lit 2 1 [(.int .i64 0)] [(0, (T 38)), (1, (T 39))]), o 41 (.append 1 8 (T 35) (T 40)), o 42 (.mov (T 11)), o 4 (.mov (T 41)), o 5 (.mov (T 42)), o 6 (.mov (B true))]),
    .ret])
theorem ok83 : cfn Try.prog Try.f83 2 = some (s83, [.tmp 4, .tmp 5, .tmp 6]) := by kernel_rfl

/-! 84 spec.l24Write -/
def s84 : SCode :=
  (sqs [
    (.reg [o 3 (.box 3 (T 0)), o 6 (.zero [(.int .i64 0), .nils, (.int .i64 0)])]),
    (sqs [
      (.reg [o 8 (.fieldAddr 1 (T 3)), o 9 (.load false 1 (T 8)), o 10 (.len (T 9)), o 11 (.bin .neq (T 10) (I 6)), o 12 (.mov (T 11)), og 13 (.mov (T 2)) 12 true, og 14 (.bin .geq (T 13) (I 2)) 12 true, o 15 (.pick (T 12) (T 14) (B false))]),
      (.cond (T 15)
        (.reg [o 16 (.make 1 8 [(.int .i64 0)] (I 6)), o 17 (.fieldAddr 1 (T 3)), on_ (.store 1 (T 17) (T 16))])
        .skip)]),
    (sqs [
      (.reg [o 7 (.mov (I 0))]),
      (.block 0
        (.loop
          (sqs [
            (sqs [
              (.reg [o 18 (.mov (T 7)), o 19 (.mov (T 1)), o 20 (.len (T 19)), o 21 (.bin .lss (T 18) (T 20)), o 22 (.mov (T 21)), og 23 (.mov (T 7)) 22 true, og 24 (.mov (T 2)) 22 true, og 25 (.bin .lss (T 23) (T 24)) 22 true, o 26 (.pick (T 22) (T 25) (B false))]),
              (.cond (T 26)
                .skip
                (.exit 0))]),
            (.block 1
              (.block 2
                (sqs [
                  (.reg [o 35 (.mov (T 7)), o 36 (.bin .eql (T 35) (I 0)), o 37 (.mov (T 36)), og 38 (.mov (T 7)) 37 false, og 39 (.bin .eql (T 38) (I 8)) 37 false, o 40 (.pick (T 37) (B true) (T 39)), o 34 (.mov (T 40))]),
                  (.cond (T 34)
                    (.reg [o 41 (.mov (T 1)), o 42 (.mov (T 7)), o 43 (.idxAddr 1 (T 41) (T 42)), o 44 (.load false 1 (T 43)), o 45 (.fieldAddr 0 (T 3)), on_ (.store 1 (T 45) (T 44))])
                    (sqs [
                      (.reg [o 47 (.mov (T 7)), o 48 (.bin .leq (T 47) (I 6)), o 46 (.mov (T 48))]),
                      (.cond (T 46)
                        (.regD [o 49 (.fieldAddr 1 (T 3)), ⟨some 50, (.load false 1 (T 49)), none, 1, []⟩, o 51 (.mov (T 7)), o 52 (.bin .sub (T 51) (I 1)), o 53 (.mov (T 1)), o 54 (.mov (T 7)), o 55 (.idxAddr 1 (T 53) (T 54)), ⟨some 56, (.load false 1 (T 55)), none, 7, []⟩, o 57 (.idxAddr 1 (T 50) (T 52)), on_ (.store 1 (T 57) (T 56))])
                        (.reg [o 29 (.mov (T 1)), o 30 (.mov (T 7)), o 31 (.idxAddr 1 (T 29) (T 30)), o 32 (.load false 1 (T 31)), o 33 (.fieldAddr 2 (T 3)), on_ (.store 1 (T 33) (T 32))]))]))]))),
            (.reg [o 27 (.mov (T 7)), o 28 (.bin .add (T 27) (I 1)), o 7 (.mov (T 28))])])))]),
    (.reg [o 58 (.load true 3 (T 3)), on_ (.store 3 (T 6) (T 58))]),
    .ret])
theorem ok84 : cfn Try.prog Try.f84 3 = some (s84, [.cell 6 true 3]) := by kernel_rfl

/-! 85 laws.toSlot -/
def s85 : SCode :=
  (sqs [
    (.reg [o 1 (.box 3 (T 0)), o 2 (.zero [(.int .i64 0), .nils, (.int .i64 0)])]),
    (.reg [o 3 (.zero [(.int .i64 0), .nils, (.int .i64 0)])]),
    (.reg [o 4 (.fieldAddr 0 (T 1)), o 5 (.load false 1 (T 4)), o 6 (.fieldAddr 0 (T 3)), on_ (.store 1 (T 6) (T 5))]),
    (.reg [o 7 (.fieldAddr 1 (T 1)), o 8 (.load false 1 (T 7)), o 9 (.call 18 [(T 8)]), o 10 (.fieldAddr 1 (T 3)), on_ (.store 1 (T 10) (T 9))]),
    (.reg [o 11 (.fieldAddr 2 (T 1)), o 12 (.load false 1 (T 11)), o 13 (.fieldAddr 2 (T 3)), on_ (.store 1 (T 13) (T 12))]),
    (.reg [o 14 (.load true 3 (T 3)), on_ (.store 3 (T 2) (T 14))]),
    .ret])
theorem ok85 : cfn Try.prog Try.f85 1 = some (s85, [.cell 2 true 3]) := by kernel_rfl

/-! 86 laws.eqSlot -/
def s86 : SCode :=
  (sqs [
    (.reg [o 2 (.box 3 (T 0)), o 3 (.box 3 (T 1)), o 4 (.mov (B false))]),
    (sqs [
      (.reg [o 5 (.fieldAddr 0 (T 2)), o 6 (.load false 1 (T 5)), o 7 (.fieldAddr 0 (T 3)), o 8 (.load false 1 (T 7)), o 9 (.bin .neq (T 6) (T 8))]),
      (.cond (T 9)
        (sqs [
          (.reg [o 4 (.mov (B false))]),
          .ret])
        .skip)]),
    (sqs [
      (.reg [o 10 (.fieldAddr 1 (T 2)), o 11 (.load false 1 (T 10)), o 12 (.fieldAddr 1 (T 3)), o 13 (.load false 1 (T 12)), o 14 (.call 20 [(T 11), (T 13)]), o 15 (.not (T 14))]),
      (.cond (T 15)
        (sqs [
          (.reg [o 4 (.mov (B false))]),
          .ret])
        .skip)]),
    (sqs [
      (.reg [o 16 (.fieldAddr 2 (T 2)), o 17 (.load false 1 (T 16)), o 18 (.fieldAddr 2 (T 3)), o 19 (.load false 1 (T 18)), o 20 (.bin .neq (T 17) (T 19))]),
      (.cond (T 20)
        (sqs [
          (.reg [o 4 (.mov (B false))]),
          .ret])
        .skip)]),
    (.reg [o 4 (.mov (B true))]),
    .ret])
theorem ok86 : cfn Try.prog Try.f86 2 = some (s86, [.tmp 4]) := by kernel_rfl

/-! 87 laws.markSlot -/
def s87 : SCode :=
  (sqs [
    (.reg [o 2 (.box 3 (T 0)), o 4 (.mov (I 0))]),
    (.reg [o 5 (.fieldAddr 1 (T 2)), o 6 (.load false 1 (T 5)), o 7 (.mov (T 1)), o 8 (.call 37 [(T 6), (T 7)]), o 1 (.mov (T 8))]),
    (.reg [o 9 (.mov (T 1)), o 4 (.mov (T 9))]),
    .ret])
theorem ok87 : cfn Try.prog Try.f87 2 = some (s87, [.tmp 4]) := by kernel_rfl

/-! 88 laws.heldSlot -/
def s88 : SCode :=
  (sqs [
    (.reg [o 2 (.box 3 (T 0)), o 4 (.mov (I 0))]),
    (.reg [o 5 (.fieldAddr 1 (T 2)), o 6 (.load false 1 (T 5)), o 7 (.mov (T 1)), o 8 (.call 55 [(T 6), (T 7)]), o 1 (.mov (T 8))]),
    (sqs [
      (.reg [o 9 (.mov (T 1)), o 10 (.bin .lss (T 9) (I 0))]),
      (.cond (T 10)
        (sqs [
          (.reg [o 4 (.mov (I (-1)))]),
          .ret])
        .skip)]),
    (.reg [o 11 (.mov (T 1)), o 4 (.mov (T 11))]),
    .ret])
theorem ok88 : cfn Try.prog Try.f88 2 = some (s88, [.tmp 4]) := by kernel_rfl

/-! 89 laws.szIntS -/
def s89 : SCode :=
  (sqs [
    (.reg [o 4 (.mov (I 0))]),
    (.reg [o 5 (.mov (T 1)), o 6 (.mov (T 0)), o 7 (.len (T 6)), o 8 (.bin .sub (T 5) (T 7)), o 1 (.mov (T 8))]),
    (sqs [
      (.reg [o 9 (.mov (T 1)), o 10 (.bin .lss (T 9) (I 0))]),
      (.cond (T 10)
        (sqs [
          (.reg [o 4 (.mov (I (-1)))]),
          .ret])
        .skip)]),
    (.reg [o 11 (.mov (T 1)), o 4 (.mov (T 11))]),
    .ret])
theorem ok89 : cfn Try.prog Try.f89 2 = some (s89, [.tmp 4]) := by kernel_rfl

/-! 90 laws.szSettingS -/
def s90 : SCode :=
  (sqs [
    (.reg [o 4 (.mov (I 0))]),
    (.reg [o 5 (.mov (T 1)), o 6 (.mov (T 0)), o 7 (.len (T 6)), o 8 (.bin .sub (T 5) (T 7)), o 1 (.mov (T 8))]),
    (sqs [
      (.reg [o 9 (.mov (T 1)), o 10 (.bin .lss (T 9) (I 0))]),
      (.cond (T 10)
        (sqs [
          (.reg [o 4 (.mov (I (-1)))]),
          .ret])
        .skip)]),
    (.reg [o 11 (.mov (T 1)), o 4 (.mov (T 11))]),
    .ret])
theorem ok90 : cfn Try.prog Try.f90 2 = some (s90, [.tmp 4]) := by kernel_rfl

/-! 91 spec.l26Copy -/
-- NOT TOLD 91
/-! 92 spec.DeviceOk -/
def s92 : SCode :=
  (sqs [
    (.reg [o 1 (.box 2 (T 0)), o 2 (.mov (B false))]),
    (sqs [
      (.reg [o 6 (.fieldAddr 0 (T 1)), o 7 (.load false 1 (T 6)), o 8 (.len (T 7)), o 9 (.bin .neq (T 8) (I 4)), o 10 (.mov (T 9)), og 11 (.fieldAddr 0 (T 1)) 10 false, og 12 (.load false 1 (T 11)) 10 false, og 13 (.call 127 [(T 12)]) 10 false, og 14 (.not (T 13)) 10 false, o 15 (.pick (T 10) (B true) (T 14))]),
      (.cond (T 15)
        (sqs [
          (.reg [o 2 (.mov (B false))]),
          .ret])
        .skip)]),
    (.reg [o 3 (.mov (I (-1)))]),
    (sqs [
      (.reg [o 4 (.mov (I 0))]),
      (.block 0
        (.loop
          (sqs [
            (sqs [
              (.reg [o 16 (.mov (T 4)), o 17 (.fieldAddr 1 (T 1)), o 18 (.load false 1 (T 17)), o 19 (.len (T 18)), o 20 (.bin .lss (T 16) (T 19))]),
              (.cond (T 20)
                .skip
                (.exit 0))]),
            (.block 1
              (sqs [
                (.reg [o 23 (.fieldAddr 1 (T 1)), o 24 (.load false 1 (T 23)), o 25 (.mov (T 4)), o 26 (.idxAddr 2 (T 24) (T 25)), o 27 (.load true 2 (T 26)), o 5 (.hole 2), o 5 (.birth 2 (T 5) (T 27))]),
                (sqs [
                  (.reg [o 28 (.fieldAddr 0 (T 5)), o 29 (.load false 1 (T 28)), o 30 (.mov (T 3)), o 31 (.bin .add (T 30) (I 1)), o 32 (.call 93 [(T 29), (T 31), (I 3)]), o 33 (.not (T 32)), o 34 (.mov (T 33)), og 35 (.fieldAddr 1 (T 5)) 34 false, og 36 (.load false 1 (T 35)) 34 false, og 37 (.call 94 [(T 36)]) 34 false, og 38 (.not (T 37)) 34 false, o 39 (.pick (T 34) (B true) (T 38))]),
                  (.cond (T 39)
                    (sqs [
                      (.reg [o 2 (.mov (B false))]),
                      .ret])
                    .skip)]),
                (.reg [o 40 (.fieldAddr 0 (T 5)), o 41 (.load false 1 (T 40)), o 3 (.mov (T 41))])])),
            (.reg [o 21 (.mov (T 4)), o 22 (.bin .add (T 21) (I 1)), o 4 (.mov (T 22))])])))]),
    (.reg [o 2 (.mov (B true))]),
    .ret])
theorem ok92 : cfn Try.prog Try.f92 1 = some (s92, [.tmp 2]) := by kernel_rfl

/-! 93 spec.l01In -/
def s93 : SCode :=
  (sqs [
    (.reg [o 6 (.mov (B false))]),
    (.reg [o 7 (.mov (T 0)), o 8 (.mov (T 1)), o 9 (.bin .geq (T 7) (T 8)), o 10 (.mov (T 9)), og 11 (.mov (T 0)) 10 true, og 12 (.mov (T 2)) 10 true, og 13 (.bin .leq (T 11) (T 12)) 10 true, o 14 (.pick (T 10) (T 13) (B false)), o 6 (.mov (T 14))]),
    .ret])
theorem ok93 : cfn Try.prog Try.f93 3 = some (s93, [.tmp 6]) := by kernel_rfl

/-! 94 spec.IsValue -/
def s94 : SCode :=
  (sqs [
    (.reg [o 2 (.mov (B false))]),
    (.reg [o 3 (.mov (T 0)), o 4 (.call 93 [(T 3), (I (-1000000)), (I 1000000)]), o 2 (.mov (T 4))]),
    .ret])
theorem ok94 : cfn Try.prog Try.f94 1 = some (s94, [.tmp 2]) := by kernel_rfl

/-! 95 spec.l26Put -/
def s95 : SCode :=
  (sqs [
    (.reg [o 3 (.box 2 (T 1)), o 4 (.mov N)]),
    (.reg [o 5 (.mov (I 0))]),
    (.block 0
      (.loop
        (sqs [
          (sqs [
            (.regD [o 7 (.mov (T 5)), o 8 (.mov (T 0)), o 9 (.len (T 8)), o 10 (.bin .lss (T 7) (T 9)), o 11 (.mov (T 10)), og 12 (.mov (T 0)) 11 true, og 13 (.mov (T 5)) 11 true, og 14 (.idxAddr 2 (T 12) (T 13)) 11 true, og 15 (.fieldAddr 0 (T 14)) 11 true, ⟨some 16, (.load false 1 (T 15)), some (11, true), 9, []⟩, og 17 (.fieldAddr 0 (T 3)) 11 true, ⟨some 18, (.load false 1 (T 17)), some (11, true), 11, []⟩, og 19 (.bin .lss (T 16) (T 18)) 11 true, o 20 (.pick (T 11) (T 19) (B false))]),
            (.cond (T 20)
              .skip
              (.exit 0))]),
          (.block 1
            (.reg [o 21 (.mov (T 5)), o 22 (.bin .add (T 21) (I 1)), o 5 (.mov (T 22))]))]))),
    (.reg [o 23 (.lit 0 2 [(.int .i64 0), (.int .i64 0)] []), o 24 (.mov (T 0)), o 25 (.mov (T 5)), o 26 (.slice 2 (T 24) none (some (T 25))), o 27 (.append 2 16 (T 23) (T 26)), o 6 (.mov (T 27))]),
    (.reg [o 28 (.mov (T 6)), o 29 (.load true 2 (T 3)), o 30 (.lit 1 2 [(.int .i64 0), (.int .i64 0)] [(0, (T 29))]), o 31 (.append 2 16 (T 28) (T 30)), o 6 (.mov (T 31))]),
    (sqs [
      (.regD [o 32 (.mov (T 5)), o 33 (.mov (T 0)), o 34 (.len (T 33)), o 35 (.bin .lss (T 32) (T 34)), o 36 (.mov (T 35)), og 37 (.mov (T 0)) 36 true, og 38 (.mov (T 5)) 36 true, og 39 (.idxAddr 2 (T 37) (T 38)) 36 true, og 40 (.fieldAddr 0 (T 39)) 36 true, ⟨some 41, (.load false 1 (T 40)), some (36, true), 9, []⟩, og 42 (.fieldAddr 0 (T 3)) 36 true, ⟨some 43, (.load false 1 (T 42)), some (36, true), 11, []⟩, og 44 (.bin .eql (T 41) (T 43)) 36 true, o 45 (.pick (T 36) (T 44) (B false))]),
      (.cond (T 45)
        (.reg [o 46 (.mov (T 5)), o 47 (.bin .add (T 46) (I 1)), o 5 (.mov (T 47))])
        .skip)]),
    (.reg [o 48 (.mov (T 6)), o 49 (.mov (T 0)), o 50 (.mov (T 5)), o 51 (.slice 2 (T 49) (some (T 50)) none), o 52 (.append 2 16 (T 48) (T 51)), o 4 (.mov (T 52))]),
    .ret])
theorem ok95 : cfn Try.prog Try.f95 2 = some (s95, [.tmp 4]) := by kernel_rfl

/-! 96 laws.toSettingS -/
def s96 : SCode :=
  (sqs [
    (.reg [o 2 (.mov N)]),
    (.reg [o 5 (.mov (T 0)), o 6 (.len (T 5)), o 7 (.make 2 16 [(.int .i64 0), (.int .i64 0)] (T 6)), o 3 (.mov (T 7))]),
    (sqs [
      (.reg [o 4 (.mov (I 0))]),
      (.block 0
        (.loop
          (sqs [
            (sqs [
              (.reg [o 8 (.mov (T 4)), o 9 (.mov (T 0)), o 10 (.len (T 9)), o 11 (.bin .lss (T 8) (T 10))]),
              (.cond (T 11)
                .skip
                (.exit 0))]),
            (.block 1
              (.reg [o 14 (.mov (T 3)), o 15 (.mov (T 4)), o 16 (.mov (T 0)), o 17 (.mov (T 4)), o 18 (.idxAddr 2 (T 16) (T 17)), o 19 (.load true 2 (T 18)), o 20 (.call 42 [(T 19)]), o 21 (.idxAddr 2 (T 14) (T 15)), on_ (.store 2 (T 21) (T 20))])),
            (.reg [o 12 (.mov (T 4)), o 13 (.bin .add (T 12) (I 1)), o 4 (.mov (T 13))])])))]),
    (.reg [o 22 (.mov (T 3)), o 2 (.mov (T 22))]),
    .ret])
theorem ok96 : cfn Try.prog Try.f96 1 = some (s96, [.tmp 2]) := by kernel_rfl

/-! 97 laws.eqSettingS -/
def s97 : SCode :=
  (sqs [
    (.reg [o 4 (.mov (B false))]),
    (sqs [
      (.reg [o 6 (.mov (T 0)), o 7 (.len (T 6)), o 8 (.mov (T 1)), o 9 (.len (T 8)), o 10 (.bin .neq (T 7) (T 9))]),
      (.cond (T 10)
        (sqs [
          (.reg [o 4 (.mov (B false))]),
          .ret])
        .skip)]),
    (sqs [
      (.reg [o 5 (.mov (I 0))]),
      (.block 0
        (.loop
          (sqs [
            (sqs [
              (.reg [o 11 (.mov (T 5)), o 12 (.mov (T 0)), o 13 (.len (T 12)), o 14 (.bin .lss (T 11) (T 13))]),
              (.cond (T 14)
                .skip
                (.exit 0))]),
            (.block 1
              (sqs [
                (.regD [o 17 (.mov (T 0)), o 18 (.mov (T 5)), o 19 (.idxAddr 2 (T 17) (T 18)), ⟨some 20, (.load true 2 (T 19)), none, 3, []⟩, o 21 (.mov (T 1)), o 22 (.mov (T 5)), o 23 (.idxAddr 2 (T 21) (T 22)), ⟨some 24, (.load true 2 (T 23)), none, 7, []⟩, o 25 (.call 128 [(T 20), (T 24)]), o 26 (.not (T 25))]),
                (.cond (T 26)
                  (sqs [
                    (.reg [o 4 (.mov (B false))]),
                    .ret])
                  .skip)])),
            (.reg [o 15 (.mov (T 5)), o 16 (.bin .add (T 15) (I 1)), o 5 (.mov (T 16))])])))]),
    (.reg [o 4 (.mov (B true))]),
    .ret])
theorem ok97 : cfn Try.prog Try.f97 2 = some (s97, [.tmp 4]) := by kernel_rfl

/-! 98 laws.markSettingS -/
def s98 : SCode :=
  (sqs [
    (.reg [o 4 (.mov (I 0))]),
    (sqs [
      (.reg [o 5 (.mov (I 0))]),
      (.block 0
        (.loop
          (sqs [
            (sqs [
              (.reg [o 6 (.mov (T 5)), o 7 (.mov (T 0)), o 8 (.len (T 7)), o 9 (.bin .lss (T 6) (T 8))]),
              (.cond (T 9)
                .skip
                (.exit 0))]),
            (.block 1
              (sqs [
                (.reg [o 12 (.mov (T 0)), o 13 (.mov (T 5)), o 14 (.mov (T 1)), o 15 (.idxAddr 2 (T 12) (T 13)), o 16 (.fieldAddr 0 (T 15)), on_ (.store 1 (T 16) (T 14))]),
                (.reg [o 17 (.mov (T 1)), o 18 (.bin .add (T 17) (I 1)), o 1 (.mov (T 18))]),
                (.reg [o 19 (.mov (T 0)), o 20 (.mov (T 5)), o 21 (.mov (T 1)), o 22 (.idxAddr 2 (T 19) (T 20)), o 23 (.fieldAddr 1 (T 22)), on_ (.store 1 (T 23) (T 21))]),
                (.reg [o 24 (.mov (T 1)), o 25 (.bin .add (T 24) (I 1)), o 1 (.mov (T 25))])])),
            (.reg [o 10 (.mov (T 5)), o 11 (.bin .add (T 10) (I 1)), o 5 (.mov (T 11))])])))]),
    (.reg [o 26 (.mov (T 1)), o 4 (.mov (T 26))]),
    .ret])
theorem ok98 : cfn Try.prog Try.f98 2 = some (s98, [.tmp 4]) := by kernel_rfl

/-! 99 laws.heldSettingS -/
def s99 : SCode :=
  (sqs [
    (.reg [o 4 (.mov (I 0))]),
    (sqs [
      (.reg [o 5 (.mov (I 0))]),
      (.block 0
        (.loop
          (sqs [
            (sqs [
              (.reg [o 6 (.mov (T 5)), o 7 (.mov (T 0)), o 8 (.len (T 7)), o 9 (.bin .lss (T 6) (T 8))]),
              (.cond (T 9)
                .skip
                (.exit 0))]),
            (.block 1
              (sqs [
                (sqs [
                  (.reg [o 12 (.mov (T 0)), o 13 (.mov (T 5)), o 14 (.idxAddr 2 (T 12) (T 13)), o 15 (.fieldAddr 0 (T 14)), o 16 (.load false 1 (T 15)), o 17 (.mov (T 1)), o 18 (.bin .neq (T 16) (T 17))]),
                  (.cond (T 18)
                    (sqs [
                      (.reg [o 4 (.mov (I (-1)))]),
                      .ret])
                    .skip)]),
                (.reg [o 19 (.mov (T 1)), o 20 (.bin .add (T 19) (I 1)), o 1 (.mov (T 20))]),
                (sqs [
                  (.reg [o 21 (.mov (T 0)), o 22 (.mov (T 5)), o 23 (.idxAddr 2 (T 21) (T 22)), o 24 (.fieldAddr 1 (T 23)), o 25 (.load false 1 (T 24)), o 26 (.mov (T 1)), o 27 (.bin .neq (T 25) (T 26))]),
                  (.cond (T 27)
                    (sqs [
                      (.reg [o 4 (.mov (I (-1)))]),
                      .ret])
                    .skip)]),
                (.reg [o 28 (.mov (T 1)), o 29 (.bin .add (T 28) (I 1)), o 1 (.mov (T 29))])])),
            (.reg [o 10 (.mov (T 5)), o 11 (.bin .add (T 10) (I 1)), o 5 (.mov (T 11))])])))]),
    (.reg [o 30 (.mov (T 1)), o 4 (.mov (T 30))]),
    .ret])
theorem ok99 : cfn Try.prog Try.f99 2 = some (s99, [.tmp 4]) := by kernel_rfl

/-! 100 spec.l25Ok -/
def s100 : SCode :=
  (sqs [
    (.reg [o 4 (.mov (B false))]),
    (sqs [
      (.reg [o 5 (.mov (I 0))]),
      (.block 0
        (.loop
          (sqs [
            (sqs [
              (.reg [o 6 (.mov (T 5)), o 7 (.mov (T 1)), o 8 (.len (T 7)), o 9 (.bin .lss (T 6) (T 8))]),
              (.cond (T 9)
                .skip
                (.exit 0))]),
            (.block 1
              (sqs [
                (.reg [o 12 (.mov (T 1)), o 13 (.mov (T 5)), o 14 (.idxAddr 2 (T 12) (T 13)), o 15 (.fieldAddr 0 (T 14)), o 16 (.load false 1 (T 15)), o 17 (.call 93 [(T 16), (I 0), (I 40)]), o 18 (.not (T 17)), o 19 (.mov (T 18)), og 20 (.mov (T 1)) 19 false, og 21 (.mov (T 5)) 19 false, og 22 (.idxAddr 2 (T 20) (T 21)) 19 false, og 23 (.fieldAddr 1 (T 22)) 19 false, og 24 (.load false 1 (T 23)) 19 false, og 25 (.call 93 [(T 24), (I 0), (I 9)]) 19 false, og 26 (.not (T 25)) 19 false, o 27 (.pick (T 19) (B true) (T 26))]),
                (.cond (T 27)
                  (sqs [
                    (.reg [o 4 (.mov (B false))]),
                    .ret])
                  .skip)])),
            (.reg [o 10 (.mov (T 5)), o 11 (.bin .add (T 10) (I 1)), o 5 (.mov (T 11))])])))]),
    (.reg [o 28 (.mov (T 0)), o 29 (.call 129 [(T 28)]), o 30 (.mov (T 29)), og 31 (.mov (T 1)) 30 true, og 32 (.len (T 31)) 30 true, og 33 (.bin .leq (T 32) (I 50)) 30 true, o 34 (.pick (T 30) (T 33) (B false)), o 4 (.mov (T 34))]),
    .ret])
theorem ok100 : cfn Try.prog Try.f100 2 = some (s100, [.tmp 4]) := by kernel_rfl

/-! 101 spec.l25Steps -/
def s101 : SCode :=
  (sqs [
    (.reg [o 6 (.mov N)]),
    (.reg [o 9 (.lit 0 1 [(.int .i64 0)] []), o 10 (.mov (T 1)), o 11 (.append 1 8 (T 9) (T 10)), o 7 (.mov (T 11))]),
    (sqs [
      (.reg [o 8 (.mov (I 0))]),
      (.block 0
        (.loop
          (sqs [
            (sqs [
              (.reg [o 12 (.mov (T 8)), o 13 (.mov (T 2)), o 14 (.bin .lss (T 12) (T 13)), o 15 (.mov (T 14)), og 16 (.mov (T 0)) 15 true, og 17 (.mov (T 7)) 15 true, og 18 (.call 130 [(T 16), (T 17)]) 15 true, o 19 (.pick (T 15) (T 18) (B false))]),
              (.cond (T 19)
                .skip
                (.exit 0))]),
            (.block 1
              (.reg [o 22 (.mov (T 0)), o 23 (.mov (T 7)), o 24 (.call 131 [(T 22), (T 23)]), o 7 (.mov (T 24))])),
            (.reg [o 20 (.mov (T 8)), o 21 (.bin .add (T 20) (I 1)), o 8 (.mov (T 21))])])))]),
    (.reg [o 25 (.mov (T 7)), o 6 (.mov (T 25))]),
    .ret])
theorem ok101 : cfn Try.prog Try.f101 3 = some (s101, [.tmp 6]) := by kernel_rfl

/-! 102 spec.l25Words -/
def s102 : SCode :=
  (sqs [
    (.reg [o 1 (.box 6 (T 0)), o 2 (.mov N)]),
    (.reg [o 6 (.load true 6 (T 1)), o 7 (.call 124 [(T 6)]), o 5 (.mov (T 7)), o 8 (.ext 0 (T 5)), o 9 (.ext 1 (T 5)), o 3 (.hole 3), o 3 (.birth 3 (T 3) (T 8)), o 4 (.mov (T 9))]),
    (sqs [
      (.reg [o 10 (.mov (T 4)), o 11 (.not (T 10))]),
      (.cond (T 11)
        (sqs [
          (.reg [o 12 (.make 1 8 [(.int .i64 0)] (I 6)), o 2 (.mov (T 12))]),
          .ret])
        .skip)]),
    (.reg [o 13 (.fieldAddr 1 (T 3)), o 14 (.load false 1 (T 13)), o 2 (.mov (T 14))]),
    .ret])
theorem ok102 : cfn Try.prog Try.f102 1 = some (s102, [.tmp 2]) := by kernel_rfl

/-! 103 laws.toInstr -/
def s103 : SCode :=
  (sqs [
    (.reg [o 1 (.box 3 (T 0)), o 2 (.zero [(.int .i64 0), (.int .i64 0), (.int .i64 0)])]),
    (.reg [o 3 (.zero [(.int .i64 0), (.int .i64 0), (.int .i64 0)])]),
    (.reg [o 4 (.fieldAddr 0 (T 1)), o 5 (.load false 1 (T 4)), o 6 (.fieldAddr 0 (T 3)), on_ (.store 1 (T 6) (T 5))]),
    (.reg [o 7 (.fieldAddr 1 (T 1)), o 8 (.load false 1 (T 7)), o 9 (.fieldAddr 1 (T 3)), on_ (.store 1 (T 9) (T 8))]),
    (.reg [o 10 (.fieldAddr 2 (T 1)), o 11 (.load false 1 (T 10)), o 12 (.fieldAddr 2 (T 3)), on_ (.store 1 (T 12) (T 11))]),
    (.reg [o 13 (.load true 3 (T 3)), on_ (.store 3 (T 2) (T 13))]),
    .ret])
theorem ok103 : cfn Try.prog Try.f103 1 = some (s103, [.cell 2 true 3]) := by kernel_rfl

/-! 104 laws.toShot -/
def s104 : SCode :=
  (sqs [
    (.reg [o 1 (.box 2 (T 0)), o 2 (.zero [(.int .i64 0), (.int .i64 0)])]),
    (.reg [o 3 (.zero [(.int .i64 0), (.int .i64 0)])]),
    (.reg [o 4 (.fieldAddr 0 (T 1)), o 5 (.load false 1 (T 4)), o 6 (.fieldAddr 0 (T 3)), on_ (.store 1 (T 6) (T 5))]),
    (.reg [o 7 (.fieldAddr 1 (T 1)), o 8 (.load false 1 (T 7)), o 9 (.fieldAddr 1 (T 3)), on_ (.store 1 (T 9) (T 8))]),
    (.reg [o 10 (.load true 2 (T 3)), on_ (.store 2 (T 2) (T 10))]),
    .ret])
theorem ok104 : cfn Try.prog Try.f104 1 = some (s104, [.cell 2 true 2]) := by kernel_rfl

/-! 105 laws.eqInstr -/
def s105 : SCode :=
  (sqs [
    (.reg [o 2 (.box 3 (T 0)), o 3 (.box 3 (T 1)), o 4 (.mov (B false))]),
    (sqs [
      (.reg [o 5 (.fieldAddr 0 (T 2)), o 6 (.load false 1 (T 5)), o 7 (.fieldAddr 0 (T 3)), o 8 (.load false 1 (T 7)), o 9 (.bin .neq (T 6) (T 8))]),
      (.cond (T 9)
        (sqs [
          (.reg [o 4 (.mov (B false))]),
          .ret])
        .skip)]),
    (sqs [
      (.reg [o 10 (.fieldAddr 1 (T 2)), o 11 (.load false 1 (T 10)), o 12 (.fieldAddr 1 (T 3)), o 13 (.load false 1 (T 12)), o 14 (.bin .neq (T 11) (T 13))]),
      (.cond (T 14)
        (sqs [
          (.reg [o 4 (.mov (B false))]),
          .ret])
        .skip)]),
    (sqs [
      (.reg [o 15 (.fieldAddr 2 (T 2)), o 16 (.load false 1 (T 15)), o 17 (.fieldAddr 2 (T 3)), o 18 (.load false 1 (T 17)), o 19 (.bin .neq (T 16) (T 18))]),
      (.cond (T 19)
        (sqs [
          (.reg [o 4 (.mov (B false))]),
          .ret])
        .skip)]),
    (.reg [o 4 (.mov (B true))]),
    .ret])
theorem ok105 : cfn Try.prog Try.f105 2 = some (s105, [.tmp 4]) := by kernel_rfl

/-! 106 laws.eqShot -/
def s106 : SCode :=
  (sqs [
    (.reg [o 2 (.box 2 (T 0)), o 3 (.box 2 (T 1)), o 4 (.mov (B false))]),
    (sqs [
      (.reg [o 5 (.fieldAddr 0 (T 2)), o 6 (.load false 1 (T 5)), o 7 (.fieldAddr 0 (T 3)), o 8 (.load false 1 (T 7)), o 9 (.bin .neq (T 6) (T 8))]),
      (.cond (T 9)
        (sqs [
          (.reg [o 4 (.mov (B false))]),
          .ret])
        .skip)]),
    (sqs [
      (.reg [o 10 (.fieldAddr 1 (T 2)), o 11 (.load false 1 (T 10)), o 12 (.fieldAddr 1 (T 3)), o 13 (.load false 1 (T 12)), o 14 (.bin .neq (T 11) (T 13))]),
      (.cond (T 14)
        (sqs [
          (.reg [o 4 (.mov (B false))]),
          .ret])
        .skip)]),
    (.reg [o 4 (.mov (B true))]),
    .ret])
theorem ok106 : cfn Try.prog Try.f106 2 = some (s106, [.tmp 4]) := by kernel_rfl

/-! 107 spec.l01Once -/
def s107 : SCode :=
  (sqs [
    (.reg [o 4 (.mov (B false))]),
    (.reg [o 5 (.mov (T 0)), o 6 (.mov (T 1)), o 7 (.call 59 [(T 5), (T 6)]), o 8 (.bin .eql (T 7) (I 0)), o 4 (.mov (T 8))]),
    .ret])
theorem ok107 : cfn Try.prog Try.f107 2 = some (s107, [.tmp 4]) := by kernel_rfl

/-! 108 spec.l24Slot -/
def s108 : SCode :=
  (sqs [
    (.reg [o 2 (.zero [(.int .i64 0), .nils, (.int .i64 0)])]),
    (.reg [o 4 (.mov (T 0)), o 5 (.call 59 [(T 4), (I 6)]), o 6 (.bin .add (I 1) (T 5)), o 7 (.mov (T 0)), o 8 (.call 58 [(T 7)]), o 9 (.build [(.int .i64 0), .nils, (.int .i64 0)] [(0, 1, (T 6)), (1, 1, (T 8))]), o 3 (.hole 3), o 3 (.birth 3 (T 3) (T 9))]),
    (.reg [o 10 (.fieldAddr 0 (T 3)), o 11 (.load false 1 (T 10)), o 12 (.fieldAddr 1 (T 3)), o 13 (.load false 1 (T 12)), o 14 (.call 126 [(T 11), (T 13)]), o 15 (.fieldAddr 2 (T 3)), on_ (.store 1 (T 15) (T 14))]),
    (.reg [o 16 (.load true 3 (T 3)), on_ (.store 3 (T 2) (T 16))]),
    .ret])
theorem ok108 : cfn Try.prog Try.f108 1 = some (s108, [.cell 2 true 3]) := by kernel_rfl

/-! 109 spec.l01Byte -/
def s109 : SCode :=
  (sqs [
    (.reg [o 2 (.mov (I 0))]),
    (.reg [o 4 (.mov (T 0)), o 5 (.mov (T 0)), o 6 (.nilchk (T 5)), o 7 (.fieldAddr 2 (T 6)), o 8 (.load false 1 (T 7)), o 9 (.bin .mul (T 8) (I 6364136223846793005)), o 10 (.bin .add (T 9) (I 1442695040888963407)), o 11 (.nilchk (T 4)), o 12 (.fieldAddr 2 (T 11)), on_ (.store 1 (T 12) (T 10))]),
    (.regD [o 13 (.mov (T 0)), o 14 (.nilchk (T 13)), o 15 (.fieldAddr 2 (T 14)), ⟨some 16, (.load false 1 (T 15)), none, 3, []⟩, o 17 (.bin .shr (T 16) (.val (.int .u64 33))), o 18 (.mov (T 0)), o 19 (.nilchk (T 18)), o 20 (.fieldAddr 2 (T 19)), ⟨some 21, (.load false 1 (T 20)), none, 8, []⟩, o 22 (.bin .shr (T 21) (.val (.int .u64 45))), o 23 (.bin .xor (T 17) (T 22)), o 24 (.bin .and (T 23) (I 255)), o 3 (.mov (T 24))]),
    (sqs [
      (.regD [o 25 (.mov (T 0)), o 26 (.nilchk (T 25)), o 27 (.fieldAddr 1 (T 26)), ⟨some 28, (.load false 1 (T 27)), none, 3, []⟩, o 29 (.mov (T 0)), o 30 (.nilchk (T 29)), o 31 (.fieldAddr 0 (T 30)), ⟨some 32, (.load false 1 (T 31)), none, 7, []⟩, o 33 (.len (T 32)), o 34 (.bin .lss (T 28) (T 33))]),
      (.cond (T 34)
        (sqs [
          (.regD [o 35 (.mov (T 3)), o 36 (.mov (T 0)), o 37 (.nilchk (T 36)), o 38 (.fieldAddr 0 (T 37)), ⟨some 39, (.load false 1 (T 38)), none, 4, []⟩, o 40 (.mov (T 0)), o 41 (.nilchk (T 40)), o 42 (.fieldAddr 1 (T 41)), ⟨some 43, (.load false 1 (T 42)), none, 8, []⟩, o 44 (.idxAddr 1 (T 39) (T 43)), ⟨some 45, (.load false 1 (T 44)), none, 10, []⟩, o 46 (.conv .i64 (T 45)), o 47 (.bin .add (T 35) (T 46)), o 48 (.bin .and (T 47) (I 255)), o 3 (.mov (T 48))]),
          (.reg [o 49 (.mov (T 0)), o 50 (.mov (T 0)), o 51 (.nilchk (T 50)), o 52 (.fieldAddr 1 (T 51)), o 53 (.load false 1 (T 52)), o 54 (.bin .add (T 53) (I 1)), o 55 (.nilchk (T 49)), o 56 (.fieldAddr 1 (T 55)), on_ (.store 1 (T 56) (T 54))])])
        .skip)]),
    (.reg [o 57 (.mov (T 3)), o 2 (.mov (T 57))]),
    .ret])
theorem ok109 : cfn Try.prog Try.f109 1 = some (s109, [.tmp 2]) := by kernel_rfl

/-! 110 spec.EnergiesOf -/
def s110 : SCode :=
  (sqs [
    (.reg [o 2 (.box 4 (T 0)), o 4 (.mov N), o 5 (.mov (B false))]),
    (.reg [o 8 (.lit 0 1 [(.int .i64 0)] []), o 6 (.mov (T 8))]),
    (sqs [
      (.reg [o 9 (.load true 4 (T 2)), o 10 (.mov (T 1)), o 11 (.call 132 [(T 9), (T 10)]), o 12 (.not (T 11))]),
      (.cond (T 12)
        (sqs [
          (.reg [o 13 (.mov (T 6)), o 4 (.mov (T 13)), o 5 (.mov (B false))]),
          .ret])
        .skip)]),
    (sqs [
      (.reg [o 7 (.mov (I 0))]),
      (.block 0
        (.loop
          (sqs [
            (sqs [
              (.reg [o 14 (.mov (T 7)), o 15 (.mov (T 1)), o 16 (.len (T 15)), o 17 (.bin .lss (T 14) (T 16))]),
              (.cond (T 17)
                .skip
                (.exit 0))]),
            (.block 1
              (sqs [
                (.regD [o 20 (.load true 4 (T 2)), o 21 (.mov (T 1)), o 22 (.mov (T 7)), o 23 (.idxAddr 1 (T 21) (T 22)), ⟨some 24, (.load false 1 (T 23)), none, 4, []⟩, o 25 (.call 133 [(T 20), (T 24)]), on_ (.store 4 (T 2) (T 25))]),
                (.reg [o 26 (.fieldAddr 0 (T 2)), o 27 (.load false 1 (T 26)), o 28 (.fieldAddr 2 (T 2)), o 29 (.load false 1 (T 28)), o 30 (.bin .geq (T 27) (T 29))]),
                (.cond (T 30)
                  (sqs [
                    (.reg [o 31 (.mov (T 6)), o 32 (.fieldAddr 0 (T 2)), o 33 (.load false 1 (T 32)), o 34 (.lit 1 1 [(.int .i64 0)] [(0, (T 33))]), o 35 (.append 1 8 (T 31) (T 34)), o 6 (.mov (T 35))]),
                    (.reg [o 36 (.fieldAddr 0 (T 2)), on_ (.store 1 (T 36) (I 0))])])
                  .skip)])),
            (.reg [o 18 (.mov (T 7)), o 19 (.bin .add (T 18) (I 1)), o 7 (.mov (T 19))])])))]),
    (.reg [o 37 (.mov (T 6)), o 4 (.mov (T 37)), o 5 (.mov (B true))]),
    .ret])
theorem ok110 : cfn Try.prog Try.f110 2 = some (s110, [.tmp 4, .tmp 5]) := by kernel_rfl

/-! 111 impl.harvested -/
def s111 : SCode :=
  (sqs [
    (.reg [o 2 (.box 4 (T 0)), o 4 (.mov N), o 5 (.mov (I 0)), o 6 (.mov (B false))]),
    (sqs [
      (.reg [o 11 (.load true 4 (T 2)), o 12 (.call 134 [(T 11)]), o 13 (.not (T 12)), o 14 (.mov (T 13)), og 15 (.mov (T 1)) 14 false, og 16 (.len (T 15)) 14 false, og 17 (.bin .gtr (T 16) (I 500)) 14 false, o 18 (.pick (T 14) (B true) (T 17)), o 19 (.mov (T 18)), og 20 (.mov (T 1)) 19 false, og 21 (.call 135 [(T 20)]) 19 false, og 22 (.not (T 21)) 19 false, o 23 (.pick (T 19) (B true) (T 22))]),
      (.cond (T 23)
        (sqs [
          (.reg [o 4 (.mov N), o 5 (.mov (I 0)), o 6 (.mov (B false))]),
          .ret])
        .skip)]),
    (.reg [o 24 (.lit 0 1 [(.int .i64 0)] []), o 7 (.mov (T 24))]),
    (.reg [o 8 (.mov (I 0))]),
    (sqs [
      (.reg [o 25 (.mov (T 1)), o 26 (.len (T 25)), o 27 (.mov (I 0))]),
      (.block 0
        (.loop
          (sqs [
            (.reg [o 28 (.bin .lss (T 27) (T 26))]),
            (.cond (T 28)
              .skip
              (.exit 0)),
            (.block 1
              (sqs [
                (.reg [o 29 (.idxAddr 1 (T 25) (T 27)), o 30 (.load false 1 (T 29)), o 10 (.mov (T 30))]),
                (.reg [o 31 (.mov (T 8)), o 32 (.fieldAddr 0 (T 2)), o 33 (.load false 1 (T 32)), o 34 (.mov (T 10)), o 35 (.bin .add (T 33) (T 34)), o 36 (.fieldAddr 3 (T 2)), o 37 (.load false 1 (T 36)), o 38 (.bin .sub (T 35) (T 37)), o 39 (.fieldAddr 1 (T 2)), o 40 (.load false 1 (T 39)), o 41 (.bin .sub (T 38) (T 40)), o 42 (.max (I 0) (T 41)), o 43 (.bin .add (T 31) (T 42)), o 8 (.mov (T 43))]),
                (.reg [o 44 (.mov (T 10)), o 45 (.call 136 [(T 2), (T 44)])]),
                (.reg [o 46 (.fieldAddr 0 (T 2)), o 47 (.load false 1 (T 46)), o 48 (.fieldAddr 2 (T 2)), o 49 (.load false 1 (T 48)), o 50 (.bin .geq (T 47) (T 49))]),
                (.cond (T 50)
                  (sqs [
                    (.reg [o 51 (.mov (T 7)), o 52 (.fieldAddr 0 (T 2)), o 53 (.load false 1 (T 52)), o 54 (.lit 1 1 [(.int .i64 0)] [(0, (T 53))]), o 55 (.append 1 8 (T 51) (T 54)), o 7 (.mov (T 55))]),
                    (.reg [o 56 (.fieldAddr 0 (T 2)), on_ (.store 1 (T 56) (I 0))])])
                  .skip)])),
            (.reg [o 57 (.bin .add (T 27) (I 1)), o 27 (.mov (T 57))])])))]),
    (.reg [o 58 (.mov (T 7)), o 59 (.mov (T 8)), o 4 (.mov (T 58)), o 5 (.mov (T 59)), o 6 (.mov (B true))]),
    .ret])
theorem ok111 : cfn Try.prog Try.f111 2 = some (s111, [.tmp 4, .tmp 5, .tmp 6]) := by kernel_rfl

/-! 112 impl.SlotOk -/
def s112 : SCode :=
  (sqs [
    (.reg [o 1 (.box 3 (T 0)), o 2 (.mov (B false))]),
    (.regD [o 3 (.fieldAddr 0 (T 1)), ⟨some 4, (.load false 1 (T 3)), none, 1, []⟩, o 5 (.bin .geq (T 4) (I 1)), o 6 (.mov (T 5)), og 7 (.fieldAddr 1 (T 1)) 6 true, ⟨some 8, (.load false 1 (T 7)), some (6, true), 5, []⟩, og 9 (.len (T 8)) 6 true, og 10 (.bin .eql (T 9) (I 6)) 6 true, o 11 (.pick (T 6) (T 10) (B false)), o 12 (.mov (T 11)), og 13 (.fieldAddr 2 (T 1)) 12 true, ⟨some 14, (.load false 1 (T 13)), some (12, true), 11, []⟩, og 15 (.fieldAddr 0 (T 1)) 12 true, ⟨some 16, (.load false 1 (T 15)), some (12, true), 13, []⟩, og 17 (.fieldAddr 1 (T 1)) 12 true, ⟨some 18, (.load false 1 (T 17)), some (12, true), 15, []⟩, ⟨some 19, (.call 15 [(T 16), (T 18)]), some (12, true), 0, [11]⟩, og 20 (.bin .eql (T 14) (T 19)) 12 true, o 21 (.pick (T 12) (T 20) (B false)), o 2 (.mov (T 21))]),
    .ret])
theorem ok112 : cfn Try.prog Try.f112 1 = some (s112, [.tmp 2]) := by kernel_rfl

/-! 113 slices.Clone[[]int,int] -/
def s113 : SCode :=
  (sqs [
    (.reg [o 2 (.mov N)]),
    (sqs [
      (.reg [o 3 (.mov (T 0)), o 4 (.isnil 24 false (T 3))]),
      (.cond (T 4)
        (sqs [
          (.reg [o 2 (.mov N)]),
          .ret])
        .skip)]),
    (.reg [o 5 (.lit 0 1 [(.int .i64 0)] []), o 6 (.mov (T 0)), o 7 (.append 1 8 (T 5) (T 6)), o 2 (.mov (T 7))]),
    .ret])
theorem ok113 : cfn Try.prog Try.f113 1 = some (s113, [.tmp 2]) := by kernel_rfl

/-! 114 spec.l01PickInt -/
def s114 : SCode :=
  (sqs [
    (.reg [o 4 (.mov (I 0))]),
    (.reg [o 5 (.mov (T 1)), o 6 (.mov (T 0)), o 7 (.mov (T 1)), o 8 (.len (T 7)), o 9 (.call 59 [(T 6), (T 8)]), o 10 (.idxAddr 1 (T 5) (T 9)), o 11 (.load false 1 (T 10)), o 4 (.mov (T 11))]),
    .ret])
theorem ok114 : cfn Try.prog Try.f114 2 = some (s114, [.tmp 4]) := by kernel_rfl

/-! 115 slices.IndexFunc[[]impl.Shot,impl.Shot] -/
def s115 : SCode :=
  (sqs [
    (.reg [o 4 (.mov (I 0))]),
    (sqs [
      (.reg [o 6 (.mov (T 0)), o 7 (.len (T 6)), o 8 (.mov (I 0))]),
      (.block 0
        (.loop
          (sqs [
            (.reg [o 9 (.bin .lss (T 8) (T 7))]),
            (.cond (T 9)
              .skip
              (.exit 0)),
            (.block 1
              (sqs [
                (.reg [o 10 (.mov (T 8)), o 5 (.mov (T 10))]),
                (.reg [o 11 (.mov (T 1)), o 12 (.mov (T 0)), o 13 (.mov (T 5)), o 14 (.idxAddr 2 (T 12) (T 13)), o 15 (.load true 2 (T 14)), o 16 (.callv (T 11) [(T 15)])]),
                (.cond (T 16)
                  (sqs [
                    (.reg [o 17 (.mov (T 5)), o 4 (.mov (T 17))]),
                    .ret])
                  .skip)])),
            (.reg [o 18 (.bin .add (T 8) (I 1)), o 8 (.mov (T 18))])])))]),
    (.reg [o 4 (.mov (I (-1)))]),
    .ret])
theorem ok115 : cfn Try.prog Try.f115 2 = some (s115, [.tmp 4]) := by kernel_rfl

/-! 116 impl.StepCode -/
def s116 : SCode :=
  (sqs [
    (.reg [o 4 (.mov N), o 5 (.mov (B false))]),
    (.reg [o 8 (.mov (T 1)), o 9 (.call 113 [(T 8)]), o 6 (.mov (T 9))]),
    (sqs [
      (.reg [o 10 (.mov (T 0)), o 11 (.call 70 [(T 10)]), o 12 (.not (T 11)), o 13 (.mov (T 12)), og 14 (.mov (T 1)) 13 false, og 15 (.len (T 14)) 13 false, og 16 (.bin .neq (T 15) (I 6)) 13 false, o 17 (.pick (T 13) (B true) (T 16)), o 18 (.mov (T 17)), og 19 (.mov (T 1)) 18 false, og 20 (.slice 1 (T 19) none (some (I 4))) 18 false, og 21 (.call 119 [(T 20)]) 18 false, og 22 (.not (T 21)) 18 false, o 23 (.pick (T 18) (B true) (T 22)), o 24 (.mov (T 23)), og 25 (.mov (T 1)) 24 false, og 26 (.idxAddr 1 (T 25) (I 4)) 24 false, og 27 (.load false 1 (T 26)) 24 false, og 28 (.mov (T 0)) 24 false, og 29 (.len (T 28)) 24 false, og 30 (.bin .sub (T 29) (I 1)) 24 false, og 31 (.call 73 [(T 27), (I 0), (T 30)]) 24 false, og 32 (.not (T 31)) 24 false, o 33 (.pick (T 24) (B true) (T 32)), o 34 (.mov (T 33)), og 35 (.mov (T 1)) 34 false, og 36 (.idxAddr 1 (T 35) (I 5)) 34 false, og 37 (.load false 1 (T 36)) 34 false, og 38 (.call 73 [(T 37), (I 0), (I 100000)]) 34 false, og 39 (.not (T 38)) 34 false, o 40 (.pick (T 34) (B true) (T 39))]),
      (.cond (T 40)
        (sqs [
          (.reg [o 41 (.mov (T 6)), o 4 (.mov (T 41)), o 5 (.mov (B false))]),
          .ret])
        .skip)]),
    (.reg [o 42 (.mov (T 0)), o 43 (.mov (T 1)), o 44 (.idxAddr 1 (T 43) (I 4)), o 45 (.load false 1 (T 44)), o 46 (.idxAddr 3 (T 42) (T 45)), o 47 (.load true 3 (T 46)), o 7 (.hole 3), o 7 (.birth 3 (T 7) (T 47))]),
    (.reg [o 48 (.mov (T 6)), o 49 (.idxAddr 1 (T 48) (I 4)), o 50 (.load false 1 (T 49)), o 51 (.bin .add (T 50) (I 1)), o 52 (.idxAddr 1 (T 48) (I 4)), on_ (.store 1 (T 52) (T 51))]),
    (.reg [o 53 (.mov (T 6)), o 54 (.idxAddr 1 (T 53) (I 5)), o 55 (.load false 1 (T 54)), o 56 (.bin .add (T 55) (I 1)), o 57 (.idxAddr 1 (T 53) (I 5)), on_ (.store 1 (T 57) (T 56))]),
    (sqs [
      (.reg [o 58 (.fieldAddr 0 (T 7)), o 59 (.load false 1 (T 58))]),
      (.block 0
        (sqs [
          (.reg [o 61 (.bin .eql (T 59) (I 1)), o 60 (.mov (T 61))]),
          (.cond (T 60)
            (.reg [o 62 (.mov (T 6)), o 63 (.fieldAddr 1 (T 7)), o 64 (.load false 1 (T 63)), o 65 (.fieldAddr 2 (T 7)), o 66 (.load false 1 (T 65)), o 67 (.idxAddr 1 (T 62) (T 64)), on_ (.store 1 (T 67) (T 66))])
            (sqs [
              (.reg [o 69 (.bin .eql (T 59) (I 2)), o 68 (.mov (T 69))]),
              (.cond (T 68)
                (.regD [o 70 (.mov (T 6)), o 71 (.fieldAddr 1 (T 7)), ⟨some 72, (.load false 1 (T 71)), none, 2, []⟩, o 73 (.mov (T 1)), o 74 (.fieldAddr 1 (T 7)), ⟨some 75, (.load false 1 (T 74)), none, 5, []⟩, o 76 (.idxAddr 1 (T 73) (T 75)), ⟨some 77, (.load false 1 (T 76)), none, 7, []⟩, o 78 (.mov (T 1)), o 79 (.fieldAddr 2 (T 7)), ⟨some 80, (.load false 1 (T 79)), none, 10, []⟩, o 81 (.idxAddr 1 (T 78) (T 80)), ⟨some 82, (.load false 1 (T 81)), none, 12, []⟩, ⟨some 83, (.call 137 [(T 77), (T 82)]), none, 0, [2]⟩, o 84 (.idxAddr 1 (T 70) (T 72)), on_ (.store 1 (T 84) (T 83))])
                (sqs [
                  (.reg [o 86 (.bin .eql (T 59) (I 3)), o 85 (.mov (T 86))]),
                  (.cond (T 85)
                    (.regD [o 87 (.mov (T 6)), o 88 (.fieldAddr 1 (T 7)), ⟨some 89, (.load false 1 (T 88)), none, 2, []⟩, o 90 (.mov (T 1)), o 91 (.fieldAddr 1 (T 7)), ⟨some 92, (.load false 1 (T 91)), none, 5, []⟩, o 93 (.idxAddr 1 (T 90) (T 92)), ⟨some 94, (.load false 1 (T 93)), none, 7, []⟩, o 95 (.mov (T 1)), o 96 (.fieldAddr 2 (T 7)), ⟨some 97, (.load false 1 (T 96)), none, 10, []⟩, o 98 (.idxAddr 1 (T 95) (T 97)), ⟨some 99, (.load false 1 (T 98)), none, 12, []⟩, ⟨some 100, (.call 138 [(T 94), (T 99)]), none, 0, [2]⟩, o 101 (.idxAddr 1 (T 87) (T 89)), on_ (.store 1 (T 101) (T 100))])
                    (sqs [
                      (.reg [o 103 (.bin .eql (T 59) (I 4)), o 102 (.mov (T 103))]),
                      (.cond (T 102)
                        (.regD [o 104 (.mov (T 6)), o 105 (.fieldAddr 1 (T 7)), ⟨some 106, (.load false 1 (T 105)), none, 2, []⟩, o 107 (.mov (T 1)), o 108 (.fieldAddr 1 (T 7)), ⟨some 109, (.load false 1 (T 108)), none, 5, []⟩, o 110 (.idxAddr 1 (T 107) (T 109)), ⟨some 111, (.load false 1 (T 110)), none, 7, []⟩, o 112 (.mov (T 1)), o 113 (.fieldAddr 2 (T 7)), ⟨some 114, (.load false 1 (T 113)), none, 10, []⟩, o 115 (.idxAddr 1 (T 112) (T 114)), ⟨some 116, (.load false 1 (T 115)), none, 12, []⟩, ⟨some 117, (.call 139 [(T 111), (T 116)]), none, 0, [2]⟩, o 118 (.idxAddr 1 (T 104) (T 106)), on_ (.store 1 (T 118) (T 117))])
                        (sqs [
                          (.reg [o 120 (.bin .eql (T 59) (I 5)), o 119 (.mov (T 120))]),
                          (.cond (T 119)
                            (sqs [
                              (.reg [o 121 (.mov (T 1)), o 122 (.fieldAddr 1 (T 7)), o 123 (.load false 1 (T 122)), o 124 (.idxAddr 1 (T 121) (T 123)), o 125 (.load false 1 (T 124)), o 126 (.bin .neq (T 125) (I 0))]),
                              (.cond (T 126)
                                (.reg [o 127 (.mov (T 6)), o 128 (.fieldAddr 2 (T 7)), o 129 (.load false 1 (T 128)), o 130 (.idxAddr 1 (T 127) (I 4)), on_ (.store 1 (T 130) (T 129))])
                                .skip)])
                            .skip)]))]))]))]))]))]),
    (.reg [o 131 (.mov (T 6)), o 4 (.mov (T 131)), o 5 (.mov (B true))]),
    .ret])
theorem ok116 : cfn Try.prog Try.f116 2 = some (s116, [.tmp 4, .tmp 5]) := by kernel_rfl

/-! 117 spec.DeviceNew -/
def s117 : SCode :=
  (sqs [
    (.reg [o 0 (.zero [.nils, .nils])]),
    (.reg [o 1 (.make 1 8 [(.int .i64 0)] (I 4)), o 2 (.build [.nils, .nils] [(0, 1, (T 1))]), on_ (.store 2 (T 0) (T 2))]),
    .ret])
theorem ok117 : cfn Try.prog Try.f117 0 = some (s117, [.cell 0 true 2]) := by kernel_rfl

/-! 118 slices.Clone[[]impl.Setting,impl.Setting] -/
def s118 : SCode :=
  (sqs [
    (.reg [o 2 (.mov N)]),
    (sqs [
      (.reg [o 3 (.mov (T 0)), o 4 (.isnil 57 false (T 3))]),
      (.cond (T 4)
        (sqs [
          (.reg [o 2 (.mov N)]),
          .ret])
        .skip)]),
    (.reg [o 5 (.lit 0 2 [(.int .i64 0), (.int .i64 0)] []), o 6 (.mov (T 0)), o 7 (.append 2 16 (T 5) (T 6)), o 2 (.mov (T 7))]),
    .ret])
theorem ok118 : cfn Try.prog Try.f118 1 = some (s118, [.tmp 2]) := by kernel_rfl

/-! 119 impl.areValues -/
def s119 : SCode :=
  (sqs [
    (.reg [o 2 (.mov (B false))]),
    (.reg [o 3 (.mov (T 0)), o 4 (.call 140 [(T 3), (.val (.fn 141 []))]), o 5 (.not (T 4)), o 2 (.mov (T 5))]),
    .ret])
theorem ok119 : cfn Try.prog Try.f119 1 = some (s119, [.tmp 2]) := by kernel_rfl

/-! 120 impl.IsValue -/
def s120 : SCode :=
  (sqs [
    (.reg [o 2 (.mov (B false))]),
    (.reg [o 3 (.mov (T 0)), o 4 (.call 73 [(T 3), (I (-1000000)), (I 1000000)]), o 2 (.mov (T 4))]),
    .ret])
theorem ok120 : cfn Try.prog Try.f120 1 = some (s120, [.tmp 2]) := by kernel_rfl

/-! 121 slices.IndexFunc[[]impl.Setting,impl.Setting] -/
def s121 : SCode :=
  (sqs [
    (.reg [o 4 (.mov (I 0))]),
    (sqs [
      (.reg [o 6 (.mov (T 0)), o 7 (.len (T 6)), o 8 (.mov (I 0))]),
      (.block 0
        (.loop
          (sqs [
            (.reg [o 9 (.bin .lss (T 8) (T 7))]),
            (.cond (T 9)
              .skip
              (.exit 0)),
            (.block 1
              (sqs [
                (.reg [o 10 (.mov (T 8)), o 5 (.mov (T 10))]),
                (.reg [o 11 (.mov (T 1)), o 12 (.mov (T 0)), o 13 (.mov (T 5)), o 14 (.idxAddr 2 (T 12) (T 13)), o 15 (.load true 2 (T 14)), o 16 (.callv (T 11) [(T 15)])]),
                (.cond (T 16)
                  (sqs [
                    (.reg [o 17 (.mov (T 5)), o 4 (.mov (T 17))]),
                    .ret])
                  .skip)])),
            (.reg [o 18 (.bin .add (T 8) (I 1)), o 8 (.mov (T 18))])])))]),
    (.reg [o 4 (.mov (I (-1)))]),
    .ret])
theorem ok121 : cfn Try.prog Try.f121 2 = some (s121, [.tmp 4]) := by kernel_rfl

/-! 122 (*impl.Device).keep$1 -/
def s122 : SCode :=
  (sqs [
    (.reg [o 2 (.box 2 (T 0)), o 3 (.mov (B false))]),
    (.reg [o 4 (.fieldAddr 0 (T 2)), o 5 (.load false 1 (T 4)), o 6 (.fieldAddr 0 (T 1)), o 7 (.load false 1 (T 6)), o 8 (.bin .geq (T 5) (T 7)), o 3 (.mov (T 8))]),
    .ret])
theorem ok122 : cfn Try.prog Try.f122 2 = some (s122, [.tmp 3]) := by kernel_rfl

/-! 123 slices.Insert[[]impl.Setting,impl.Setting] -/
-- NOT TOLD 123
/-! 124 spec.Newest -/
def s124 : SCode :=
  (sqs [
    (.reg [o 1 (.box 6 (T 0)), o 2 (.zero [(.int .i64 0), .nils, (.int .i64 0)]), o 3 (.mov (B false))]),
    (sqs [
      (.reg [o 4 (.load true 6 (T 1)), o 5 (.call 125 [(T 4)])]),
      (.block 0
        (sqs [
          (.reg [o 7 (.bin .eql (T 5) (I 0)), o 6 (.mov (T 7))]),
          (.cond (T 6)
            (sqs [
              (.reg [o 8 (.fieldAddr 0 (T 1)), o 9 (.load true 3 (T 8)), o 10 (.call 82 [(T 9)]), on_ (.store 3 (T 2) (T 10)), o 3 (.mov (B true))]),
              .ret])
            (sqs [
              (.reg [o 12 (.bin .eql (T 5) (I 1)), o 11 (.mov (T 12))]),
              (.cond (T 11)
                (sqs [
                  (.reg [o 13 (.fieldAddr 3 (T 1)), o 14 (.load true 3 (T 13)), o 15 (.call 82 [(T 14)]), on_ (.store 3 (T 2) (T 15)), o 3 (.mov (B true))]),
                  .ret])
                .skip)]))]))]),
    (.reg [o 16 (.build [(.int .i64 0), .nils, (.int .i64 0)] []), on_ (.store 3 (T 2) (T 16)), o 3 (.mov (B false))]),
    .ret])
theorem ok124 : cfn Try.prog Try.f124 1 = some (s124, [.cell 2 true 3, .tmp 3]) := by kernel_rfl

/-! 125 spec.l24Which -/
def s125 : SCode :=
  (sqs [
    (.reg [o 1 (.box 6 (T 0)), o 2 (.mov (I 0))]),
    (.reg [o 5 (.fieldAddr 0 (T 1)), o 6 (.load true 3 (T 5)), o 7 (.call 144 [(T 6)]), o 3 (.mov (T 7))]),
    (.reg [o 8 (.fieldAddr 3 (T 1)), o 9 (.load true 3 (T 8)), o 10 (.call 144 [(T 9)]), o 4 (.mov (T 10))]),
    (sqs [
      (.reg [o 11 (.mov (T 3)), o 12 (.mov (T 11)), og 13 (.mov (T 4)) 12 true, og 14 (.not (T 13)) 12 true, og 15 (.mov (T 14)) 12 true, og 16 (.fieldAddr 0 (T 1)) 15 false, og 17 (.fieldAddr 0 (T 16)) 15 false, og 18 (.load false 1 (T 17)) 15 false, og 19 (.fieldAddr 3 (T 1)) 15 false, og 20 (.fieldAddr 0 (T 19)) 15 false, og 21 (.load false 1 (T 20)) 15 false, og 22 (.bin .geq (T 18) (T 21)) 15 false, og 23 (.pick (T 15) (B true) (T 22)) 12 true, o 24 (.pick (T 12) (T 23) (B false))]),
      (.cond (T 24)
        (sqs [
          (.reg [o 2 (.mov (I 0))]),
          .ret])
        .skip)]),
    (sqs [
      (.reg [o 25 (.mov (T 4))]),
      (.cond (T 25)
        (sqs [
          (.reg [o 2 (.mov (I 1))]),
          .ret])
        .skip)]),
    (.reg [o 2 (.mov (I (-1)))]),
    .ret])
theorem ok125 : cfn Try.prog Try.f125 1 = some (s125, [.tmp 2]) := by kernel_rfl

/-! 126 spec.SumOf -/
def s126 : SCode :=
  (sqs [
    (.reg [o 4 (.mov (I 0))]),
    (sqs [
      (.reg [o 7 (.mov (T 1)), o 8 (.len (T 7)), o 9 (.bin .neq (T 8) (I 6))]),
      (.cond (T 9)
        (sqs [
          (.reg [o 4 (.mov (I (-1)))]),
          .ret])
        .skip)]),
    (.reg [o 10 (.mov (T 0)), o 11 (.call 145 [(T 10)]), o 5 (.mov (T 11))]),
    (sqs [
      (.reg [o 6 (.mov (I 0))]),
      (.block 0
        (.loop
          (sqs [
            (sqs [
              (.reg [o 12 (.mov (T 6)), o 13 (.mov (T 1)), o 14 (.len (T 13)), o 15 (.bin .lss (T 12) (T 14))]),
              (.cond (T 15)
                .skip
                (.exit 0))]),
            (.block 1
              (.reg [o 18 (.mov (T 5)), o 19 (.bin .mul (I 31) (T 18)), o 20 (.mov (T 1)), o 21 (.mov (T 6)), o 22 (.idxAddr 1 (T 20) (T 21)), o 23 (.load false 1 (T 22)), o 24 (.call 145 [(T 23)]), o 25 (.bin .add (T 19) (T 24)), o 26 (.bin .rem (T 25) (I 100003)), o 5 (.mov (T 26))])),
            (.reg [o 16 (.mov (T 6)), o 17 (.bin .add (T 16) (I 1)), o 6 (.mov (T 17))])])))]),
    (.reg [o 27 (.mov (T 5)), o 4 (.mov (T 27))]),
    .ret])
theorem ok126 : cfn Try.prog Try.f126 2 = some (s126, [.tmp 4]) := by kernel_rfl

/-! 127 spec.l09Values -/
def s127 : SCode :=
  (sqs [
    (.reg [o 2 (.mov (B false))]),
    (sqs [
      (.reg [o 3 (.mov (I 0))]),
      (.block 0
        (.loop
          (sqs [
            (sqs [
              (.reg [o 4 (.mov (T 3)), o 5 (.mov (T 0)), o 6 (.len (T 5)), o 7 (.bin .lss (T 4) (T 6))]),
              (.cond (T 7)
                .skip
                (.exit 0))]),
            (.block 1
              (sqs [
                (.reg [o 10 (.mov (T 0)), o 11 (.mov (T 3)), o 12 (.idxAddr 1 (T 10) (T 11)), o 13 (.load false 1 (T 12)), o 14 (.call 94 [(T 13)]), o 15 (.not (T 14))]),
                (.cond (T 15)
                  (sqs [
                    (.reg [o 2 (.mov (B false))]),
                    .ret])
                  .skip)])),
            (.reg [o 8 (.mov (T 3)), o 9 (.bin .add (T 8) (I 1)), o 3 (.mov (T 9))])])))]),
    (.reg [o 2 (.mov (B true))]),
    .ret])
theorem ok127 : cfn Try.prog Try.f127 1 = some (s127, [.tmp 2]) := by kernel_rfl

/-! 128 laws.eqSetting -/
def s128 : SCode :=
  (sqs [
    (.reg [o 2 (.box 2 (T 0)), o 3 (.box 2 (T 1)), o 4 (.mov (B false))]),
    (sqs [
      (.reg [o 5 (.fieldAddr 0 (T 2)), o 6 (.load false 1 (T 5)), o 7 (.fieldAddr 0 (T 3)), o 8 (.load false 1 (T 7)), o 9 (.bin .neq (T 6) (T 8))]),
      (.cond (T 9)
        (sqs [
          (.reg [o 4 (.mov (B false))]),
          .ret])
        .skip)]),
    (sqs [
      (.reg [o 10 (.fieldAddr 1 (T 2)), o 11 (.load false 1 (T 10)), o 12 (.fieldAddr 1 (T 3)), o 13 (.load false 1 (T 12)), o 14 (.bin .neq (T 11) (T 13))]),
      (.cond (T 14)
        (sqs [
          (.reg [o 4 (.mov (B false))]),
          .ret])
        .skip)]),
    (.reg [o 4 (.mov (B true))]),
    .ret])
theorem ok128 : cfn Try.prog Try.f128 2 = some (s128, [.tmp 4]) := by kernel_rfl

/-! 129 spec.CodeOk -/
def s129 : SCode :=
  (sqs [
    (.reg [o 2 (.mov (B false))]),
    (sqs [
      (.reg [o 3 (.mov (I 0))]),
      (.block 0
        (.loop
          (sqs [
            (sqs [
              (.reg [o 6 (.mov (T 3)), o 7 (.mov (T 0)), o 8 (.len (T 7)), o 9 (.bin .lss (T 6) (T 8))]),
              (.cond (T 9)
                .skip
                (.exit 0))]),
            (.block 1
              (sqs [
                (.reg [o 12 (.mov (T 0)), o 13 (.mov (T 3)), o 14 (.idxAddr 3 (T 12) (T 13)), o 15 (.load true 3 (T 14)), o 4 (.hole 3), o 4 (.birth 3 (T 4) (T 15))]),
                (.reg [o 5 (.mov (I 3))]),
                (sqs [
                  (.reg [o 16 (.fieldAddr 0 (T 4)), o 17 (.load false 1 (T 16))]),
                  (.block 2
                    (sqs [
                      (.reg [o 19 (.bin .eql (T 17) (I 1)), o 18 (.mov (T 19))]),
                      (.cond (T 18)
                        (.reg [o 5 (.mov (I 999))])
                        (sqs [
                          (.reg [o 21 (.bin .eql (T 17) (I 5)), o 20 (.mov (T 21))]),
                          (.cond (T 20)
                            (.reg [o 22 (.mov (T 0)), o 23 (.len (T 22)), o 5 (.mov (T 23))])
                            .skip)]))]))]),
                (.reg [o 24 (.fieldAddr 0 (T 4)), o 25 (.load false 1 (T 24)), o 26 (.call 93 [(T 25), (I 1), (I 5)]), o 27 (.not (T 26)), o 28 (.mov (T 27)), og 29 (.fieldAddr 1 (T 4)) 28 false, og 30 (.load false 1 (T 29)) 28 false, og 31 (.call 93 [(T 30), (I 0), (I 3)]) 28 false, og 32 (.not (T 31)) 28 false, o 33 (.pick (T 28) (B true) (T 32)), o 34 (.mov (T 33)), og 35 (.fieldAddr 2 (T 4)) 34 false, og 36 (.load false 1 (T 35)) 34 false, og 37 (.mov (T 5)) 34 false, og 38 (.call 93 [(T 36), (I 0), (T 37)]) 34 false, og 39 (.not (T 38)) 34 false, o 40 (.pick (T 34) (B true) (T 39))]),
                (.cond (T 40)
                  (sqs [
                    (.reg [o 2 (.mov (B false))]),
                    .ret])
                  .skip)])),
            (.reg [o 10 (.mov (T 3)), o 11 (.bin .add (T 10) (I 1)), o 3 (.mov (T 11))])])))]),
    (.reg [o 41 (.mov (T 0)), o 42 (.len (T 41)), o 43 (.call 93 [(T 42), (I 1), (I 16)]), o 2 (.mov (T 43))]),
    .ret])
theorem ok129 : cfn Try.prog Try.f129 1 = some (s129, [.tmp 2]) := by kernel_rfl

/-! 130 spec.l25Can -/
def s130 : SCode :=
  (sqs [
    (.reg [o 4 (.mov (B false))]),
    (.reg [o 5 (.mov (T 1)), o 6 (.len (T 5)), o 7 (.bin .eql (T 6) (I 6)), o 8 (.mov (T 7)), og 9 (.mov (T 1)) 8 true, og 10 (.slice 1 (T 9) none (some (I 4))) 8 true, og 11 (.call 127 [(T 10)]) 8 true, o 12 (.pick (T 8) (T 11) (B false)), o 13 (.mov (T 12)), og 14 (.mov (T 1)) 13 true, og 15 (.idxAddr 1 (T 14) (I 4)) 13 true, og 16 (.load false 1 (T 15)) 13 true, og 17 (.mov (T 0)) 13 true, og 18 (.len (T 17)) 13 true, og 19 (.bin .sub (T 18) (I 1)) 13 true, og 20 (.call 93 [(T 16), (I 0), (T 19)]) 13 true, o 21 (.pick (T 13) (T 20) (B false)), o 22 (.mov (T 21)), og 23 (.mov (T 1)) 22 true, og 24 (.idxAddr 1 (T 23) (I 5)) 22 true, og 25 (.load false 1 (T 24)) 22 true, og 26 (.call 93 [(T 25), (I 0), (I 100000)]) 22 true, o 27 (.pick (T 22) (T 26) (B false)), o 4 (.mov (T 27))]),
    .ret])
theorem ok130 : cfn Try.prog Try.f130 2 = some (s130, [.tmp 4]) := by kernel_rfl

/-! 131 spec.l25Step -/
def s131 : SCode :=
  (sqs [
    (.reg [o 4 (.mov N)]),
    (.reg [o 7 (.lit 0 1 [(.int .i64 0)] []), o 8 (.mov (T 1)), o 9 (.append 1 8 (T 7) (T 8)), o 5 (.mov (T 9))]),
    (.reg [o 10 (.mov (T 0)), o 11 (.mov (T 1)), o 12 (.idxAddr 1 (T 11) (I 4)), o 13 (.load false 1 (T 12)), o 14 (.idxAddr 3 (T 10) (T 13)), o 15 (.load true 3 (T 14)), o 6 (.hole 3), o 6 (.birth 3 (T 6) (T 15))]),
    (.reg [o 16 (.mov (T 5)), o 17 (.mov (T 1)), o 18 (.idxAddr 1 (T 17) (I 4)), o 19 (.load false 1 (T 18)), o 20 (.bin .add (T 19) (I 1)), o 21 (.idxAddr 1 (T 16) (I 4)), on_ (.store 1 (T 21) (T 20))]),
    (.reg [o 22 (.mov (T 5)), o 23 (.mov (T 1)), o 24 (.idxAddr 1 (T 23) (I 5)), o 25 (.load false 1 (T 24)), o 26 (.bin .add (T 25) (I 1)), o 27 (.idxAddr 1 (T 22) (I 5)), on_ (.store 1 (T 27) (T 26))]),
    (sqs [
      (.reg [o 28 (.fieldAddr 0 (T 6)), o 29 (.load false 1 (T 28))]),
      (.block 0
        (sqs [
          (.reg [o 31 (.bin .eql (T 29) (I 1)), o 30 (.mov (T 31))]),
          (.cond (T 30)
            (.reg [o 32 (.mov (T 5)), o 33 (.fieldAddr 1 (T 6)), o 34 (.load false 1 (T 33)), o 35 (.fieldAddr 2 (T 6)), o 36 (.load false 1 (T 35)), o 37 (.idxAddr 1 (T 32) (T 34)), on_ (.store 1 (T 37) (T 36))])
            (sqs [
              (.reg [o 39 (.bin .eql (T 29) (I 2)), o 38 (.mov (T 39))]),
              (.cond (T 38)
                (.regD [o 40 (.mov (T 5)), o 41 (.fieldAddr 1 (T 6)), ⟨some 42, (.load false 1 (T 41)), none, 2, []⟩, o 43 (.mov (T 1)), o 44 (.fieldAddr 1 (T 6)), ⟨some 45, (.load false 1 (T 44)), none, 5, []⟩, o 46 (.idxAddr 1 (T 43) (T 45)), ⟨some 47, (.load false 1 (T 46)), none, 7, []⟩, o 48 (.mov (T 1)), o 49 (.fieldAddr 2 (T 6)), ⟨some 50, (.load false 1 (T 49)), none, 10, []⟩, o 51 (.idxAddr 1 (T 48) (T 50)), ⟨some 52, (.load false 1 (T 51)), none, 12, []⟩, ⟨some 53, (.call 146 [(T 47), (T 52)]), none, 0, [2]⟩, o 54 (.idxAddr 1 (T 40) (T 42)), on_ (.store 1 (T 54) (T 53))])
                (sqs [
                  (.reg [o 56 (.bin .eql (T 29) (I 3)), o 55 (.mov (T 56))]),
                  (.cond (T 55)
                    (.regD [o 57 (.mov (T 5)), o 58 (.fieldAddr 1 (T 6)), ⟨some 59, (.load false 1 (T 58)), none, 2, []⟩, o 60 (.mov (T 1)), o 61 (.fieldAddr 1 (T 6)), ⟨some 62, (.load false 1 (T 61)), none, 5, []⟩, o 63 (.idxAddr 1 (T 60) (T 62)), ⟨some 64, (.load false 1 (T 63)), none, 7, []⟩, o 65 (.mov (T 1)), o 66 (.fieldAddr 2 (T 6)), ⟨some 67, (.load false 1 (T 66)), none, 10, []⟩, o 68 (.idxAddr 1 (T 65) (T 67)), ⟨some 69, (.load false 1 (T 68)), none, 12, []⟩, ⟨some 70, (.call 147 [(T 64), (T 69)]), none, 0, [2]⟩, o 71 (.idxAddr 1 (T 57) (T 59)), on_ (.store 1 (T 71) (T 70))])
                    (sqs [
                      (.reg [o 73 (.bin .eql (T 29) (I 4)), o 72 (.mov (T 73))]),
                      (.cond (T 72)
                        (.regD [o 74 (.mov (T 5)), o 75 (.fieldAddr 1 (T 6)), ⟨some 76, (.load false 1 (T 75)), none, 2, []⟩, o 77 (.mov (T 1)), o 78 (.fieldAddr 1 (T 6)), ⟨some 79, (.load false 1 (T 78)), none, 5, []⟩, o 80 (.idxAddr 1 (T 77) (T 79)), ⟨some 81, (.load false 1 (T 80)), none, 7, []⟩, o 82 (.mov (T 1)), o 83 (.fieldAddr 2 (T 6)), ⟨some 84, (.load false 1 (T 83)), none, 10, []⟩, o 85 (.idxAddr 1 (T 82) (T 84)), ⟨some 86, (.load false 1 (T 85)), none, 12, []⟩, ⟨some 87, (.call 148 [(T 81), (T 86)]), none, 0, [2]⟩, o 88 (.idxAddr 1 (T 74) (T 76)), on_ (.store 1 (T 88) (T 87))])
                        (sqs [
                          (.reg [o 90 (.bin .eql (T 29) (I 5)), o 89 (.mov (T 90))]),
                          (.cond (T 89)
                            (sqs [
                              (.reg [o 91 (.mov (T 1)), o 92 (.fieldAddr 1 (T 6)), o 93 (.load false 1 (T 92)), o 94 (.idxAddr 1 (T 91) (T 93)), o 95 (.load false 1 (T 94)), o 96 (.bin .neq (T 95) (I 0))]),
                              (.cond (T 96)
                                (.reg [o 97 (.mov (T 5)), o 98 (.fieldAddr 2 (T 6)), o 99 (.load false 1 (T 98)), o 100 (.idxAddr 1 (T 97) (I 4)), on_ (.store 1 (T 100) (T 99))])
                                .skip)])
                            .skip)]))]))]))]))]))]),
    (.reg [o 101 (.mov (T 5)), o 4 (.mov (T 101))]),
    .ret])
theorem ok131 : cfn Try.prog Try.f131 2 = some (s131, [.tmp 4]) := by kernel_rfl

/-! 132 spec.l20Ok -/
def s132 : SCode :=
  (sqs [
    (.reg [o 2 (.box 4 (T 0)), o 4 (.mov (B false))]),
    (.reg [o 5 (.load true 4 (T 2)), o 6 (.call 149 [(T 5)]), o 7 (.mov (T 6)), og 8 (.mov (T 1)) 7 true, og 9 (.len (T 8)) 7 true, og 10 (.bin .leq (T 9) (I 500)) 7 true, o 11 (.pick (T 7) (T 10) (B false)), o 12 (.mov (T 11)), og 13 (.mov (T 1)) 12 true, og 14 (.call 150 [(T 13)]) 12 true, o 15 (.pick (T 12) (T 14) (B false)), o 4 (.mov (T 15))]),
    .ret])
theorem ok132 : cfn Try.prog Try.f132 2 = some (s132, [.tmp 4]) := by kernel_rfl

/-! 133 spec.l19Tick -/
def s133 : SCode :=
  (sqs [
    (.reg [o 2 (.box 4 (T 0)), o 4 (.zero [(.int .i64 0), (.int .i64 0), (.int .i64 0), (.int .i64 0)])]),
    (.reg [o 5 (.fieldAddr 0 (T 2)), o 6 (.load false 1 (T 5)), o 7 (.mov (T 1)), o 8 (.bin .add (T 6) (T 7)), o 9 (.fieldAddr 3 (T 2)), o 10 (.load false 1 (T 9)), o 11 (.bin .sub (T 8) (T 10)), o 12 (.fieldAddr 1 (T 2)), o 13 (.load false 1 (T 12)), o 14 (.call 151 [(T 11), (I 0), (T 13)]), o 15 (.fieldAddr 0 (T 2)), on_ (.store 1 (T 15) (T 14))]),
    (.reg [o 16 (.load true 4 (T 2)), on_ (.store 4 (T 4) (T 16))]),
    .ret])
theorem ok133 : cfn Try.prog Try.f133 2 = some (s133, [.cell 4 true 4]) := by kernel_rfl

/-! 134 impl.StoreOk -/
def s134 : SCode :=
  (sqs [
    (.reg [o 1 (.box 4 (T 0)), o 2 (.mov (B false))]),
    (.reg [o 3 (.fieldAddr 1 (T 1)), o 4 (.load false 1 (T 3)), o 5 (.call 73 [(T 4), (I 1), (I 5000)]), o 6 (.mov (T 5)), og 7 (.fieldAddr 0 (T 1)) 6 true, og 8 (.load false 1 (T 7)) 6 true, og 9 (.fieldAddr 1 (T 1)) 6 true, og 10 (.load false 1 (T 9)) 6 true, og 11 (.call 73 [(T 8), (I 0), (T 10)]) 6 true, o 12 (.pick (T 6) (T 11) (B false)), o 13 (.mov (T 12)), og 14 (.fieldAddr 2 (T 1)) 13 true, og 15 (.load false 1 (T 14)) 13 true, og 16 (.fieldAddr 1 (T 1)) 13 true, og 17 (.load false 1 (T 16)) 13 true, og 18 (.call 73 [(T 15), (I 1), (T 17)]) 13 true, o 19 (.pick (T 13) (T 18) (B false)), o 20 (.mov (T 19)), og 21 (.fieldAddr 3 (T 1)) 20 true, og 22 (.load false 1 (T 21)) 20 true, og 23 (.call 73 [(T 22), (I 0), (I 100)]) 20 true, o 24 (.pick (T 20) (T 23) (B false)), o 2 (.mov (T 24))]),
    .ret])
theorem ok134 : cfn Try.prog Try.f134 1 = some (s134, [.tmp 2]) := by kernel_rfl

/-! 135 impl.areHarvests -/
def s135 : SCode :=
  (sqs [
    (.reg [o 2 (.mov (B false))]),
    (.reg [o 3 (.mov (T 0)), o 4 (.call 140 [(T 3), (.val (.fn 152 []))]), o 5 (.not (T 4)), o 2 (.mov (T 5))]),
    .ret])
theorem ok135 : cfn Try.prog Try.f135 1 = some (s135, [.tmp 2]) := by kernel_rfl

/-! 136 (*impl.Store).tick -/
def s136 : SCode :=
  (.regD [o 4 (.mov (T 0)), o 5 (.mov (T 0)), o 6 (.nilchk (T 5)), o 7 (.fieldAddr 0 (T 6)), ⟨some 8, (.load false 1 (T 7)), none, 4, []⟩, o 9 (.mov (T 1)), o 10 (.bin .add (T 8) (T 9)), o 11 (.mov (T 0)), o 12 (.nilchk (T 11)), o 13 (.fieldAddr 3 (T 12)), ⟨some 14, (.load false 1 (T 13)), none, 10, []⟩, o 15 (.bin .sub (T 10) (T 14)), o 16 (.mov (T 0)), o 17 (.nilchk (T 16)), o 18 (.fieldAddr 1 (T 17)), ⟨some 19, (.load false 1 (T 18)), none, 15, []⟩, o 20 (.call 154 [(T 15), (I 0), (T 19)]), o 21 (.nilchk (T 4)), o 22 (.fieldAddr 0 (T 21)), on_ (.store 1 (T 22) (T 20))])
theorem ok136 : cfn Try.prog Try.f136 2 = some (s136, []) := by kernel_rfl

/-! 137 impl.AddValues -/
def s137 : SCode :=
  (sqs [
    (.reg [o 4 (.mov (I 0))]),
    (.reg [o 5 (.mov (T 0)), o 6 (.call 155 [(T 5)]), o 7 (.mov (T 1)), o 8 (.call 155 [(T 7)]), o 9 (.bin .add (T 6) (T 8)), o 10 (.call 155 [(T 9)]), o 4 (.mov (T 10))]),
    .ret])
theorem ok137 : cfn Try.prog Try.f137 2 = some (s137, [.tmp 4]) := by kernel_rfl

/-! 138 impl.SubValues -/
def s138 : SCode :=
  (sqs [
    (.reg [o 4 (.mov (I 0))]),
    (.reg [o 5 (.mov (T 0)), o 6 (.call 155 [(T 5)]), o 7 (.mov (T 1)), o 8 (.call 155 [(T 7)]), o 9 (.bin .sub (T 6) (T 8)), o 10 (.call 155 [(T 9)]), o 4 (.mov (T 10))]),
    .ret])
theorem ok138 : cfn Try.prog Try.f138 2 = some (s138, [.tmp 4]) := by kernel_rfl

/-! 139 impl.MulValues -/
def s139 : SCode :=
  (sqs [
    (.reg [o 4 (.mov (I 0))]),
    (.reg [o 5 (.mov (T 0)), o 6 (.call 155 [(T 5)]), o 7 (.mov (T 1)), o 8 (.call 155 [(T 7)]), o 9 (.bin .mul (T 6) (T 8)), o 10 (.call 155 [(T 9)]), o 4 (.mov (T 10))]),
    .ret])
theorem ok139 : cfn Try.prog Try.f139 2 = some (s139, [.tmp 4]) := by kernel_rfl

/-! 140 slices.ContainsFunc[[]int,int] -/
def s140 : SCode :=
  (sqs [
    (.reg [o 4 (.mov (B false))]),
    (.reg [o 5 (.mov (T 0)), o 6 (.mov (T 1)), o 7 (.call 156 [(T 5), (T 6)]), o 8 (.bin .geq (T 7) (I 0)), o 4 (.mov (T 8))]),
    .ret])
theorem ok140 : cfn Try.prog Try.f140 2 = some (s140, [.tmp 4]) := by kernel_rfl

/-! 141 impl.areValues$1 -/
def s141 : SCode :=
  (sqs [
    (.reg [o 2 (.mov (B false))]),
    (.reg [o 3 (.mov (T 0)), o 4 (.call 120 [(T 3)]), o 5 (.not (T 4)), o 2 (.mov (T 5))]),
    .ret])
theorem ok141 : cfn Try.prog Try.f141 1 = some (s141, [.tmp 2]) := by kernel_rfl

/-! 142 slices.overlaps[impl.Setting] -/
-- NOT TOLD 142
/-! 143 slices.rotateRight[impl.Setting] -/
def s143 : SCode :=
  (.reg [o 4 (.mov (T 0)), o 5 (.mov (T 0)), o 6 (.len (T 5)), o 7 (.mov (T 1)), o 8 (.bin .sub (T 6) (T 7)), o 9 (.call 157 [(T 4), (T 8)])])
theorem ok143 : cfn Try.prog Try.f143 2 = some (s143, []) := by kernel_rfl

/-! 144 spec.SlotOk -/
def s144 : SCode :=
  (sqs [
    (.reg [o 1 (.box 3 (T 0)), o 2 (.mov (B false))]),
    (.regD [o 3 (.fieldAddr 0 (T 1)), ⟨some 4, (.load false 1 (T 3)), none, 1, []⟩, o 5 (.bin .geq (T 4) (I 1)), o 6 (.mov (T 5)), og 7 (.fieldAddr 1 (T 1)) 6 true, ⟨some 8, (.load false 1 (T 7)), some (6, true), 5, []⟩, og 9 (.len (T 8)) 6 true, og 10 (.bin .eql (T 9) (I 6)) 6 true, o 11 (.pick (T 6) (T 10) (B false)), o 12 (.mov (T 11)), og 13 (.fieldAddr 2 (T 1)) 12 true, ⟨some 14, (.load false 1 (T 13)), some (12, true), 11, []⟩, og 15 (.fieldAddr 0 (T 1)) 12 true, ⟨some 16, (.load false 1 (T 15)), some (12, true), 13, []⟩, og 17 (.fieldAddr 1 (T 1)) 12 true, ⟨some 18, (.load false 1 (T 17)), some (12, true), 15, []⟩, ⟨some 19, (.call 126 [(T 16), (T 18)]), some (12, true), 0, [11]⟩, og 20 (.bin .eql (T 14) (T 19)) 12 true, o 21 (.pick (T 12) (T 20) (B false)), o 2 (.mov (T 21))]),
    .ret])
theorem ok144 : cfn Try.prog Try.f144 1 = some (s144, [.tmp 2]) := by kernel_rfl

/-! 145 spec.l24Mod -/
def s145 : SCode :=
  (sqs [
    (.reg [o 2 (.mov (I 0))]),
    (.reg [o 3 (.mov (T 0)), o 4 (.bin .rem (T 3) (I 100003)), o 0 (.mov (T 4))]),
    (sqs [
      (.reg [o 5 (.mov (T 0)), o 6 (.bin .lss (T 5) (I 0))]),
      (.cond (T 6)
        (.reg [o 7 (.mov (T 0)), o 8 (.bin .add (T 7) (I 100003)), o 0 (.mov (T 8))])
        .skip)]),
    (.reg [o 9 (.mov (T 0)), o 2 (.mov (T 9))]),
    .ret])
theorem ok145 : cfn Try.prog Try.f145 1 = some (s145, [.tmp 2]) := by kernel_rfl

/-! 146 spec.AddValues -/
def s146 : SCode :=
  (sqs [
    (.reg [o 4 (.mov (I 0))]),
    (.reg [o 5 (.mov (T 0)), o 6 (.call 158 [(T 5)]), o 7 (.mov (T 1)), o 8 (.call 158 [(T 7)]), o 9 (.bin .add (T 6) (T 8)), o 10 (.call 158 [(T 9)]), o 4 (.mov (T 10))]),
    .ret])
theorem ok146 : cfn Try.prog Try.f146 2 = some (s146, [.tmp 4]) := by kernel_rfl

/-! 147 spec.SubValues -/
def s147 : SCode :=
  (sqs [
    (.reg [o 4 (.mov (I 0))]),
    (.reg [o 5 (.mov (T 0)), o 6 (.call 158 [(T 5)]), o 7 (.mov (T 1)), o 8 (.call 158 [(T 7)]), o 9 (.bin .sub (T 6) (T 8)), o 10 (.call 158 [(T 9)]), o 4 (.mov (T 10))]),
    .ret])
theorem ok147 : cfn Try.prog Try.f147 2 = some (s147, [.tmp 4]) := by kernel_rfl

/-! 148 spec.MulValues -/
def s148 : SCode :=
  (sqs [
    (.reg [o 4 (.mov (I 0))]),
    (.reg [o 5 (.mov (T 0)), o 6 (.call 158 [(T 5)]), o 7 (.mov (T 1)), o 8 (.call 158 [(T 7)]), o 9 (.bin .mul (T 6) (T 8)), o 10 (.call 158 [(T 9)]), o 4 (.mov (T 10))]),
    .ret])
theorem ok148 : cfn Try.prog Try.f148 2 = some (s148, [.tmp 4]) := by kernel_rfl

/-! 149 spec.StoreOk -/
def s149 : SCode :=
  (sqs [
    (.reg [o 1 (.box 4 (T 0)), o 2 (.mov (B false))]),
    (.reg [o 3 (.fieldAddr 1 (T 1)), o 4 (.load false 1 (T 3)), o 5 (.call 93 [(T 4), (I 1), (I 5000)]), o 6 (.mov (T 5)), og 7 (.fieldAddr 0 (T 1)) 6 true, og 8 (.load false 1 (T 7)) 6 true, og 9 (.fieldAddr 1 (T 1)) 6 true, og 10 (.load false 1 (T 9)) 6 true, og 11 (.call 93 [(T 8), (I 0), (T 10)]) 6 true, o 12 (.pick (T 6) (T 11) (B false)), o 13 (.mov (T 12)), og 14 (.fieldAddr 2 (T 1)) 13 true, og 15 (.load false 1 (T 14)) 13 true, og 16 (.fieldAddr 1 (T 1)) 13 true, og 17 (.load false 1 (T 16)) 13 true, og 18 (.call 93 [(T 15), (I 1), (T 17)]) 13 true, o 19 (.pick (T 13) (T 18) (B false)), o 20 (.mov (T 19)), og 21 (.fieldAddr 3 (T 1)) 20 true, og 22 (.load false 1 (T 21)) 20 true, og 23 (.call 93 [(T 22), (I 0), (I 100)]) 20 true, o 24 (.pick (T 20) (T 23) (B false)), o 2 (.mov (T 24))]),
    .ret])
theorem ok149 : cfn Try.prog Try.f149 1 = some (s149, [.tmp 2]) := by kernel_rfl

/-! 150 spec.l19Harvests -/
def s150 : SCode :=
  (sqs [
    (.reg [o 2 (.mov (B false))]),
    (sqs [
      (.reg [o 3 (.mov (I 0))]),
      (.block 0
        (.loop
          (sqs [
            (sqs [
              (.reg [o 4 (.mov (T 3)), o 5 (.mov (T 0)), o 6 (.len (T 5)), o 7 (.bin .lss (T 4) (T 6))]),
              (.cond (T 7)
                .skip
                (.exit 0))]),
            (.block 1
              (sqs [
                (.reg [o 10 (.mov (T 0)), o 11 (.mov (T 3)), o 12 (.idxAddr 1 (T 10) (T 11)), o 13 (.load false 1 (T 12)), o 14 (.call 93 [(T 13), (I 0), (I 1000)]), o 15 (.not (T 14))]),
                (.cond (T 15)
                  (sqs [
                    (.reg [o 2 (.mov (B false))]),
                    .ret])
                  .skip)])),
            (.reg [o 8 (.mov (T 3)), o 9 (.bin .add (T 8) (I 1)), o 3 (.mov (T 9))])])))]),
    (.reg [o 2 (.mov (B true))]),
    .ret])
theorem ok150 : cfn Try.prog Try.f150 1 = some (s150, [.tmp 2]) := by kernel_rfl

/-! 151 spec.Clamp -/
def s151 : SCode :=
  (sqs [
    (.reg [o 6 (.mov (I 0))]),
    (sqs [
      (.reg [o 7 (.mov (T 2)), o 8 (.mov (T 1)), o 9 (.bin .lss (T 7) (T 8)), o 10 (.mov (T 9)), og 11 (.mov (T 0)) 10 false, og 12 (.mov (T 1)) 10 false, og 13 (.bin .lss (T 11) (T 12)) 10 false, o 14 (.pick (T 10) (B true) (T 13))]),
      (.cond (T 14)
        (sqs [
          (.reg [o 15 (.mov (T 1)), o 6 (.mov (T 15))]),
          .ret])
        .skip)]),
    (sqs [
      (.reg [o 16 (.mov (T 0)), o 17 (.mov (T 2)), o 18 (.bin .gtr (T 16) (T 17))]),
      (.cond (T 18)
        (sqs [
          (.reg [o 19 (.mov (T 2)), o 6 (.mov (T 19))]),
          .ret])
        .skip)]),
    (.reg [o 20 (.mov (T 0)), o 6 (.mov (T 20))]),
    .ret])
theorem ok151 : cfn Try.prog Try.f151 3 = some (s151, [.tmp 6]) := by kernel_rfl

/-! 152 impl.areHarvests$1 -/
def s152 : SCode :=
  (sqs [
    (.reg [o 2 (.mov (B false))]),
    (.reg [o 3 (.mov (T 0)), o 4 (.call 153 [(T 3)]), o 5 (.not (T 4)), o 2 (.mov (T 5))]),
    .ret])
theorem ok152 : cfn Try.prog Try.f152 1 = some (s152, [.tmp 2]) := by kernel_rfl

/-! 153 impl.isHarvest -/
def s153 : SCode :=
  (sqs [
    (.reg [o 2 (.mov (B false))]),
    (.reg [o 3 (.mov (T 0)), o 4 (.call 73 [(T 3), (I 0), (I 1000)]), o 2 (.mov (T 4))]),
    .ret])
theorem ok153 : cfn Try.prog Try.f153 1 = some (s153, [.tmp 2]) := by kernel_rfl

/-! 154 impl.Clamp -/
def s154 : SCode :=
  (sqs [
    (.reg [o 6 (.mov (I 0))]),
    (sqs [
      (.reg [o 7 (.mov (T 2)), o 8 (.mov (T 1)), o 9 (.bin .lss (T 7) (T 8))]),
      (.cond (T 9)
        (sqs [
          (.reg [o 10 (.mov (T 1)), o 6 (.mov (T 10))]),
          .ret])
        .skip)]),
    (.reg [o 11 (.mov (T 0)), o 12 (.mov (T 1)), o 13 (.max (T 11) (T 12)), o 14 (.mov (T 2)), o 15 (.min (T 13) (T 14)), o 6 (.mov (T 15))]),
    .ret])
theorem ok154 : cfn Try.prog Try.f154 3 = some (s154, [.tmp 6]) := by kernel_rfl

/-! 155 impl.Saturate -/
def s155 : SCode :=
  (sqs [
    (.reg [o 2 (.mov (I 0))]),
    (.reg [o 3 (.mov (T 0)), o 4 (.call 154 [(T 3), (I (-1000000)), (I 1000000)]), o 2 (.mov (T 4))]),
    .ret])
theorem ok155 : cfn Try.prog Try.f155 1 = some (s155, [.tmp 2]) := by kernel_rfl

/-! 156 slices.IndexFunc[[]int,int] -/
def s156 : SCode :=
  (sqs [
    (.reg [o 4 (.mov (I 0))]),
    (sqs [
      (.reg [o 6 (.mov (T 0)), o 7 (.len (T 6)), o 8 (.mov (I 0))]),
      (.block 0
        (.loop
          (sqs [
            (.reg [o 9 (.bin .lss (T 8) (T 7))]),
            (.cond (T 9)
              .skip
              (.exit 0)),
            (.block 1
              (sqs [
                (.reg [o 10 (.mov (T 8)), o 5 (.mov (T 10))]),
                (.reg [o 11 (.mov (T 1)), o 12 (.mov (T 0)), o 13 (.mov (T 5)), o 14 (.idxAddr 1 (T 12) (T 13)), o 15 (.load false 1 (T 14)), o 16 (.callv (T 11) [(T 15)])]),
                (.cond (T 16)
                  (sqs [
                    (.reg [o 17 (.mov (T 5)), o 4 (.mov (T 17))]),
                    .ret])
                  .skip)])),
            (.reg [o 18 (.bin .add (T 8) (I 1)), o 8 (.mov (T 18))])])))]),
    (.reg [o 4 (.mov (I (-1)))]),
    .ret])
theorem ok156 : cfn Try.prog Try.f156 2 = some (s156, [.tmp 4]) := by kernel_rfl

/-! 157 slices.rotateLeft[impl.Setting] -/
def s157 : SCode :=
  (sqs [
    (.reg [o 4 (.mov (T 0)), o 5 (.mov (T 1)), o 6 (.slice 2 (T 4) none (some (T 5))), o 7 (.call 159 [(T 6)])]),
    (.reg [o 8 (.mov (T 0)), o 9 (.mov (T 1)), o 10 (.slice 2 (T 8) (some (T 9)) none), o 11 (.call 159 [(T 10)])]),
    (.reg [o 12 (.mov (T 0)), o 13 (.call 159 [(T 12)])])])
theorem ok157 : cfn Try.prog Try.f157 2 = some (s157, []) := by kernel_rfl

/-! 158 spec.Saturate -/
def s158 : SCode :=
  (sqs [
    (.reg [o 2 (.mov (I 0))]),
    (.reg [o 3 (.mov (T 0)), o 4 (.call 151 [(T 3), (I (-1000000)), (I 1000000)]), o 2 (.mov (T 4))]),
    .ret])
theorem ok158 : cfn Try.prog Try.f158 1 = some (s158, [.tmp 2]) := by kernel_rfl

/-! 159 slices.Reverse[[]impl.Setting,impl.Setting] -/
def s159 : SCode :=
  (sqs [
    (.reg [o 4 (.mov (T 0)), o 5 (.len (T 4)), o 6 (.bin .sub (T 5) (I 1)), o 2 (.mov (I 0)), o 3 (.mov (T 6))]),
    (.block 0
      (.loop
        (sqs [
          (sqs [
            (.reg [o 7 (.mov (T 2)), o 8 (.mov (T 3)), o 9 (.bin .lss (T 7) (T 8))]),
            (.cond (T 9)
              .skip
              (.exit 0))]),
          (.block 1
            (.regD [o 14 (.mov (T 0)), o 15 (.mov (T 2)), o 16 (.mov (T 0)), o 17 (.mov (T 3)), o 18 (.mov (T 0)), o 19 (.mov (T 3)), o 20 (.idxAddr 2 (T 18) (T 19)), ⟨some 21, (.load true 2 (T 20)), none, 7, []⟩, o 22 (.mov (T 0)), o 23 (.mov (T 2)), o 24 (.idxAddr 2 (T 22) (T 23)), ⟨some 25, (.load true 2 (T 24)), none, 11, []⟩, o 26 (.idxAddr 2 (T 14) (T 15)), on_ (.store 2 (T 26) (T 21)), o 27 (.idxAddr 2 (T 16) (T 17)), on_ (.store 2 (T 27) (T 25))])),
          (.reg [o 10 (.mov (T 2)), o 11 (.bin .add (T 10) (I 1)), o 12 (.mov (T 3)), o 13 (.bin .sub (T 12) (I 1)), o 2 (.mov (T 11)), o 3 (.mov (T 13))])])))])
theorem ok159 : cfn Try.prog Try.f159 1 = some (s159, []) := by kernel_rfl

end Go.Av

import Derived.Test.YtdlanjhcabcagaaAv23
import Derived.Test.YtdlanjhcabcagaaProg
namespace Go.Av
open Go.Proofs
set_option maxRecDepth 1000000
/-! 3 laws.FnConfigured -/
def s3 : SCode :=
  (sqs [
    (.reg [o 2 (.mov (B false))]),
    (sqs [
      (.reg [o 12 (.mov (T 0)), o 13 (.call 5 [(T 12)])]),
      (.cond (T 13)
        (sqs [
          (.reg [o 2 (.mov (B true))]),
          .ret])
        .skip)]),
    (.reg [o 14 (.mov (T 0)), o 15 (.call 6 [(T 14)]), o 3 (.hole 2), o 3 (.birth 2 (T 3) (T 15))]),
    (.reg [o 16 (.mov (T 0)), o 17 (.call 7 [(T 16)]), o 4 (.mov (T 17))]),
    (.regD [o 18 (.mov (T 4)), o 19 (.idxAddr 1 (T 18) (I 0)), ⟨some 20, (.load false 1 (T 19)), none, 2, []⟩, o 21 (.bin .rem (T 20) (I 4)), o 22 (.mov (T 4)), o 23 (.idxAddr 1 (T 22) (I 1)), ⟨some 24, (.load false 1 (T 23)), none, 6, []⟩, o 25 (.bin .sub (T 24) (I 5000)), o 26 (.build [(.int .i64 0), (.int .i64 0)] [(0, 1, (T 21)), (1, 1, (T 25))]), o 5 (.hole 2), o 5 (.birth 2 (T 5) (T 26))]),
    (.reg [o 27 (.mov (T 4)), o 28 (.idxAddr 1 (T 27) (I 2)), o 29 (.load false 1 (T 28)), o 30 (.bin .rem (T 29) (I 3)), o 6 (.mov (T 30))]),
    (.reg [o 32 (.load true 2 (T 3)), o 33 (.load true 2 (T 5)), o 34 (.mov (T 6)), o 35 (.call 8 [(T 32), (T 33), (T 34)]), o 31 (.mov (T 35)), o 36 (.ext 0 (T 31)), o 37 (.ext 1 (T 31)), o 7 (.hole 2), o 7 (.birth 2 (T 7) (T 36)), o 8 (.mov (T 37))]),
    (.reg [o 39 (.load true 2 (T 3)), o 40 (.load true 2 (T 5)), o 41 (.call 8 [(T 39), (T 40), (I 2)]), o 38 (.mov (T 41)), o 42 (.ext 0 (T 38)), o 43 (.ext 1 (T 38)), o 9 (.hole 2), o 9 (.birth 2 (T 9) (T 42)), o 10 (.mov (T 43))]),
    (.reg [o 44 (.load true 2 (T 7)), o 45 (.call 10 [(T 44)]), o 46 (.call 9 [(T 45)]), o 11 (.hole 2), o 11 (.birth 2 (T 11) (T 46))]),
    (sqs [
      (.reg [o 47 (.fieldAddr 0 (T 11)), o 48 (.load false 1 (T 47)), o 49 (.len (T 48)), o 50 (.bin .neq (T 49) (I 4)), o 51 (.mov (T 50)), og 52 (.fieldAddr 0 (T 9)) 51 false, og 53 (.load false 1 (T 52)) 51 false, og 54 (.len (T 53)) 51 false, og 55 (.bin .neq (T 54) (I 4)) 51 false, o 56 (.pick (T 51) (B true) (T 55))]),
      (.cond (T 56)
        (sqs [
          (.reg [o 2 (.mov (B false))]),
          .ret])
        .skip)]),
    (sqs [
      (.reg [o 57 (.mov (T 6)), o 58 (.bin .eql (T 57) (I 0))]),
      (.cond (T 58)
        (sqs [
          (.regD [o 59 (.mov (T 8)), o 60 (.mov (T 59)), og 61 (.mov (T 10)) 60 true, o 62 (.pick (T 60) (T 61) (B false)), o 63 (.mov (T 62)), og 64 (.fieldAddr 0 (T 11)) 63 true, ⟨some 65, (.load false 1 (T 64)), some (63, true), 6, []⟩, ⟨some 66, (.load true 2 (T 3)), some (63, true), 7, []⟩, ⟨some 67, (.call 10 [(T 66)]), some (63, true), 0, [6]⟩, ⟨some 68, (.call 9 [(T 67)]), some (63, true), 0, [6]⟩, og 69 (.field false 0 1 (T 68)) 63 true, og 70 (.call 11 [(T 65), (T 69)]) 63 true, o 71 (.pick (T 63) (T 70) (B false)), o 2 (.mov (T 71))]),
          .ret])
        .skip)]),
    (.regD [o 72 (.mov (T 8)), o 73 (.mov (T 72)), og 74 (.mov (T 10)) 73 true, o 75 (.pick (T 73) (T 74) (B false)), o 76 (.mov (T 75)), og 77 (.fieldAddr 0 (T 11)) 76 true, ⟨some 78, (.load false 1 (T 77)), some (76, true), 6, []⟩, ⟨some 79, (.load true 2 (T 9)), some (76, true), 7, []⟩, ⟨some 80, (.call 10 [(T 79)]), some (76, true), 0, [6]⟩, ⟨some 81, (.call 9 [(T 80)]), some (76, true), 0, [6]⟩, og 82 (.field false 0 1 (T 81)) 76 true, og 83 (.call 11 [(T 78), (T 82)]) 76 true, o 84 (.pick (T 76) (T 83) (B false)), o 85 (.mov (T 84)), og 86 (.fieldAddr 0 (T 11)) 85 true, ⟨some 87, (.load false 1 (T 86)), some (85, true), 15, []⟩, og 88 (.fieldAddr 0 (T 5)) 85 true, ⟨some 89, (.load false 1 (T 88)), some (85, true), 17, []⟩, og 90 (.idxAddr 1 (T 87) (T 89)) 85 true, ⟨some 91, (.load false 1 (T 90)), some (85, true), 19, []⟩, og 92 (.fieldAddr 1 (T 5)) 85 true, ⟨some 93, (.load false 1 (T 92)), some (85, true), 21, []⟩, og 94 (.bin .eql (T 91) (T 93)) 85 true, o 95 (.pick (T 85) (T 94) (B false)), o 96 (.mov (T 95)), og 97 (.fieldAddr 0 (T 9)) 96 true, ⟨some 98, (.load false 1 (T 97)), some (96, true), 26, []⟩, og 99 (.fieldAddr 0 (T 5)) 96 true, ⟨some 100, (.load false 1 (T 99)), some (96, true), 28, []⟩, og 101 (.idxAddr 1 (T 98) (T 100)) 96 true, ⟨some 102, (.load false 1 (T 101)), some (96, true), 30, []⟩, og 103 (.fieldAddr 1 (T 5)) 96 true, ⟨some 104, (.load false 1 (T 103)), some (96, true), 32, []⟩, og 105 (.bin .eql (T 102) (T 104)) 96 true, o 106 (.pick (T 96) (T 105) (B false)), o 2 (.mov (T 106))]),
    .ret])
theorem ok3 : cfn Try.prog Try.f3 1 = some (s3, [.tmp 2]) := by kernel_rfl

/-! 4 laws.FnExactConfigure -/
def s4 : SCode :=
  (sqs [
    (.reg [o 3 (.box 2 (T 0)), o 4 (.box 2 (T 1)), o 6 (.mov (B false))]),
    (.reg [o 7 (.mov (I 1048576))]),
    (.reg [o 18 (.load true 2 (T 3)), o 19 (.mov (T 7)), o 20 (.call 12 [(T 18), (T 19)]), o 7 (.mov (T 20))]),
    (sqs [
      (.reg [o 21 (.mov (T 7)), o 22 (.bin .lss (T 21) (I 0))]),
      (.cond (T 22)
        (sqs [
          (.reg [o 6 (.mov (B true))]),
          .ret])
        .skip)]),
    (.regD [o 24 (.load true 2 (T 3)), ⟨some 26, (.load true 2 (T 4)), none, 2, []⟩, o 28 (.mov (T 2)), o 8 (.hole 2), ⟨some 25, (.call 14 [(T 24)]), none, 0, [2]⟩, o 27 (.call 15 [(T 26)]), o 29 (.call 13 [(T 25), (T 27), (T 28)]), o 23 (.mov (T 29)), o 30 (.ext 0 (T 23)), o 31 (.ext 1 (T 23)), o 8 (.birth 2 (T 8) (T 30)), o 9 (.mov (T 31))]),
    (.reg [o 32 (.load true 2 (T 3)), o 33 (.call 14 [(T 32)]), o 10 (.hole 2), o 10 (.birth 2 (T 10) (T 33))]),
    (.regD [o 35 (.load true 2 (T 10)), ⟨some 36, (.load true 2 (T 4)), none, 1, []⟩, o 38 (.mov (T 2)), o 11 (.hole 2), ⟨some 37, (.call 15 [(T 36)]), none, 0, [0]⟩, o 39 (.call 8 [(T 35), (T 37), (T 38)]), o 34 (.mov (T 39)), o 40 (.ext 0 (T 34)), o 41 (.ext 1 (T 34)), o 11 (.birth 2 (T 11) (T 40)), o 12 (.mov (T 41))]),
    (sqs [
      (.reg [o 42 (.load true 2 (T 11)), o 43 (.load true 2 (T 8)), o 44 (.call 16 [(T 42), (T 43)]), o 45 (.not (T 44)), o 46 (.mov (T 45)), og 47 (.mov (T 12)) 46 false, og 48 (.mov (T 9)) 46 false, og 49 (.beq true (T 47) (T 48)) 46 false, o 50 (.pick (T 46) (B true) (T 49))]),
      (.cond (T 50)
        (sqs [
          (.reg [o 6 (.mov (B false))]),
          .ret])
        .skip)]),
    (sqs [
      (.regD [o 51 (.load true 2 (T 10)), ⟨some 52, (.load true 2 (T 3)), none, 1, []⟩, ⟨some 53, (.call 14 [(T 52)]), none, 0, [0]⟩, o 54 (.call 16 [(T 51), (T 53)]), o 55 (.not (T 54))]),
      (.cond (T 55)
        (sqs [
          (.reg [o 6 (.mov (B false))]),
          .ret])
        .skip)]),
    (.reg [o 13 (.mov (I 1))]),
    (.reg [o 56 (.load true 2 (T 10)), o 57 (.mov (T 13)), o 58 (.call 17 [(T 56), (T 57)]), o 13 (.mov (T 58))]),
    (sqs [
      (.reg [o 59 (.mov (T 13)), o 60 (.bin .lss (T 59) (I 0)), o 61 (.mov (T 60)), og 62 (.load true 2 (T 11)) 61 false, og 63 (.load true 2 (T 8)) 61 false, og 64 (.call 16 [(T 62), (T 63)]) 61 false, og 65 (.not (T 64)) 61 false, o 66 (.pick (T 61) (B true) (T 65)), o 67 (.mov (T 66)), og 68 (.mov (T 12)) 67 false, og 69 (.mov (T 9)) 67 false, og 70 (.beq true (T 68) (T 69)) 67 false, o 71 (.pick (T 67) (B true) (T 70))]),
      (.cond (T 71)
        (sqs [
          (.reg [o 6 (.mov (B false))]),
          .ret])
        .skip)]),
    (.reg [o 14 (.mov (I 1))]),
    (.reg [o 72 (.load true 2 (T 11)), o 73 (.mov (T 14)), o 74 (.call 17 [(T 72), (T 73)]), o 14 (.mov (T 74))]),
    (.reg [o 15 (.mov (I 1))]),
    (.reg [o 75 (.load true 2 (T 11)), o 76 (.mov (T 15)), o 77 (.call 18 [(T 75), (T 76)]), o 15 (.mov (T 77))]),
    (sqs [
      (.reg [o 78 (.mov (T 15)), o 79 (.bin .lss (T 78) (I 0))]),
      (.cond (T 79)
        (sqs [
          (.reg [o 6 (.mov (B false))]),
          .ret])
        .skip)]),
    (sqs [
      (.reg [o 80 (.mov (T 15)), o 81 (.mov (T 14)), o 82 (.bin .neq (T 80) (T 81))]),
      (.cond (T 82)
        (sqs [
          (.reg [o 6 (.mov (B false))]),
          .ret])
        .skip)]),
    (.regD [o 84 (.load true 2 (T 3)), ⟨some 86, (.load true 2 (T 4)), none, 2, []⟩, o 88 (.mov (T 2)), o 16 (.hole 2), ⟨some 85, (.call 14 [(T 84)]), none, 0, [2]⟩, o 87 (.call 15 [(T 86)]), o 89 (.call 8 [(T 85), (T 87), (T 88)]), o 83 (.mov (T 89)), o 90 (.ext 0 (T 83)), o 91 (.ext 1 (T 83)), o 16 (.birth 2 (T 16) (T 90)), o 17 (.mov (T 91))]),
    (sqs [
      (.reg [o 92 (.load true 2 (T 16)), o 93 (.load true 2 (T 8)), o 94 (.call 16 [(T 92), (T 93)]), o 95 (.not (T 94)), o 96 (.mov (T 95)), og 97 (.mov (T 17)) 96 false, og 98 (.mov (T 9)) 96 false, og 99 (.beq true (T 97) (T 98)) 96 false, o 100 (.pick (T 96) (B true) (T 99))]),
      (.cond (T 100)
        (sqs [
          (.reg [o 6 (.mov (B false))]),
          .ret])
        .skip)]),
    (.reg [o 15 (.mov (I 1))]),
    (.reg [o 101 (.load true 2 (T 11)), o 102 (.mov (T 15)), o 103 (.call 18 [(T 101), (T 102)]), o 15 (.mov (T 103))]),
    (sqs [
      (.reg [o 104 (.mov (T 15)), o 105 (.bin .lss (T 104) (I 0))]),
      (.cond (T 105)
        (sqs [
          (.reg [o 6 (.mov (B false))]),
          .ret])
        .skip)]),
    (sqs [
      (.reg [o 106 (.mov (T 15)), o 107 (.mov (T 14)), o 108 (.bin .neq (T 106) (T 107))]),
      (.cond (T 108)
        (sqs [
          (.reg [o 6 (.mov (B false))]),
          .ret])
        .skip)]),
    (.reg [o 6 (.mov (B true))]),
    .ret])
theorem ok4 : cfn Try.prog Try.f4 3 = some (s4, [.tmp 6]) := by kernel_rfl

/-! 5 laws.big -/
def s5 : SCode :=
  (sqs [
    (.reg [o 2 (.mov (B false))]),
    (.reg [o 3 (.mov (T 0)), o 4 (.len (T 3)), o 5 (.bin .gtr (T 4) (I 1048576)), o 2 (.mov (T 5))]),
    .ret])
theorem ok5 : cfn Try.prog Try.f5 1 = some (s5, [.tmp 2]) := by kernel_rfl

/-! 6 spec.DrawDevice -/
def s6 : SCode :=
  (sqs [
    (.reg [o 2 (.zero [.nils, .nils])]),
    (.reg [o 3 (.mov (T 0)), o 4 (.call 20 [(T 3)]), o 5 (.call 19 [(T 4)]), on_ (.store 2 (T 2) (T 5))]),
    .ret])
theorem ok6 : cfn Try.prog Try.f6 1 = some (s6, [.cell 2 true 2]) := by kernel_rfl

/-! 7 spec.DrawPlaces -/
def s7 : SCode :=
  (sqs [
    (.reg [o 2 (.mov N)]),
    (.reg [o 6 (.mov (T 0)), o 7 (.call 20 [(T 6)]), o 3 (.mov (T 7))]),
    (.reg [o 8 (.lit 0 1 [(.int .i64 0)] []), o 4 (.mov (T 8))]),
    (sqs [
      (.reg [o 5 (.mov (I 0))]),
      (.block 0
        (.loop
          (sqs [
            (sqs [
              (.reg [o 9 (.mov (T 5)), o 10 (.bin .lss (T 9) (I 12))]),
              (.cond (T 10)
                .skip
                (.exit 0))]),
            (.block 1
              (.reg [o 13 (.mov (T 4)), o 14 (.mov (T 3)), o 15 (.call 21 [(T 14), (I 10000)]), o 16 (.lit 1 1 [(.int .i64 0)] [(0, (T 15))]), o 17 (.append 1 8 (T 13) (T 16)), o 4 (.mov (T 17))])),
            (.reg [o 11 (.mov (T 5)), o 12 (.bin .add (T 11) (I 1)), o 5 (.mov (T 12))])])))]),
    (.reg [o 18 (.mov (T 4)), o 2 (.mov (T 18))]),
    .ret])
theorem ok7 : cfn Try.prog Try.f7 1 = some (s7, [.tmp 2]) := by kernel_rfl

/-! 8 impl.Configure -/
def s8 : SCode :=
  (sqs [
    (.reg [o 3 (.box 2 (T 0)), o 4 (.box 2 (T 1)), o 6 (.zero [.nils, .nils]), o 7 (.mov (B false))]),
    (.reg [o 9 (.load true 2 (T 3)), o 10 (.call 22 [(T 9)]), o 8 (.hole 2), o 8 (.birth 2 (T 8) (T 10))]),
    (sqs [
      (.reg [o 11 (.load true 2 (T 3)), o 12 (.call 23 [(T 11)]), o 13 (.not (T 12)), o 14 (.mov (T 13)), og 15 (.load true 2 (T 4)) 14 false, og 16 (.call 24 [(T 15)]) 14 false, og 17 (.not (T 16)) 14 false, o 18 (.pick (T 14) (B true) (T 17)), o 19 (.mov (T 18)), og 20 (.mov (T 2)) 19 false, og 21 (.call 25 [(T 20), (I 0), (I 2)]) 19 false, og 22 (.not (T 21)) 19 false, o 23 (.pick (T 19) (B true) (T 22))]),
      (.cond (T 23)
        (sqs [
          (.reg [o 24 (.load true 2 (T 8)), on_ (.store 2 (T 6) (T 24)), o 7 (.mov (B false))]),
          .ret])
        .skip)]),
    (sqs [
      (.reg [o 25 (.mov (T 2)), o 26 (.bin .gtr (T 25) (I 0))]),
      (.cond (T 26)
        (.reg [o 27 (.load true 2 (T 4)), o 28 (.call 26 [(T 8), (T 27)])])
        .skip)]),
    (sqs [
      (.reg [o 29 (.mov (T 2)), o 30 (.bin .gtr (T 29) (I 1))]),
      (.cond (T 30)
        (.reg [o 31 (.fieldAddr 0 (T 8)), o 32 (.load false 1 (T 31)), o 33 (.fieldAddr 0 (T 4)), o 34 (.load false 1 (T 33)), o 35 (.fieldAddr 1 (T 4)), o 36 (.load false 1 (T 35)), o 37 (.idxAddr 1 (T 32) (T 34)), on_ (.store 1 (T 37) (T 36))])
        .skip)]),
    (.reg [o 38 (.load true 2 (T 8)), on_ (.store 2 (T 6) (T 38)), o 7 (.mov (B true))]),
    .ret])
theorem ok8 : cfn Try.prog Try.f8 3 = some (s8, [.cell 6 true 2, .tmp 7]) := by kernel_rfl

/-! 9 impl.Restore -/
def s9 : SCode :=
  (sqs [
    (.reg [o 1 (.box 2 (T 0)), o 2 (.zero [.nils, .nils])]),
    (.reg [o 6 (.load true 2 (T 1)), o 7 (.call 22 [(T 6)]), o 3 (.hole 2), o 3 (.birth 2 (T 3) (T 7))]),
    (sqs [
      (.reg [o 8 (.load true 2 (T 1)), o 9 (.call 23 [(T 8)])]),
      (.cond (T 9)
        (sqs [
          (.reg [o 10 (.fieldAddr 1 (T 1)), o 11 (.load false 1 (T 10)), o 12 (.len (T 11)), o 13 (.mov (I 0))]),
          (.block 0
            (.loop
              (sqs [
                (.reg [o 14 (.bin .lss (T 13) (T 12))]),
                (.cond (T 14)
                  .skip
                  (.exit 0)),
                (.block 1
                  (sqs [
                    (.reg [o 15 (.idxAddr 2 (T 11) (T 13)), o 16 (.load true 2 (T 15)), o 5 (.hole 2), o 5 (.birth 2 (T 5) (T 16))]),
                    (.reg [o 17 (.fieldAddr 0 (T 3)), o 18 (.load false 1 (T 17)), o 19 (.fieldAddr 0 (T 5)), o 20 (.load false 1 (T 19)), o 21 (.fieldAddr 1 (T 5)), o 22 (.load false 1 (T 21)), o 23 (.idxAddr 1 (T 18) (T 20)), on_ (.store 1 (T 23) (T 22))])])),
                (.reg [o 24 (.bin .add (T 13) (I 1)), o 13 (.mov (T 24))])])))])
        .skip)]),
    (.reg [o 25 (.load true 2 (T 3)), on_ (.store 2 (T 2) (T 25))]),
    .ret])
theorem ok9 : cfn Try.prog Try.f9 1 = some (s9, [.cell 2 true 2]) := by kernel_rfl

/-! 10 impl.PowerFail -/
def s10 : SCode :=
  (sqs [
    (.reg [o 1 (.box 2 (T 0)), o 2 (.zero [.nils, .nils])]),
    (.reg [o 4 (.load true 2 (T 1)), o 5 (.call 22 [(T 4)]), o 3 (.hole 2), o 3 (.birth 2 (T 3) (T 5))]),
    (sqs [
      (.reg [o 6 (.load true 2 (T 1)), o 7 (.call 23 [(T 6)])]),
      (.cond (T 7)
        (.reg [o 8 (.fieldAddr 0 (T 3)), o 9 (.load false 1 (T 8)), on_ (.clear 1 [(.int .i64 0)] (T 9))])
        .skip)]),
    (.reg [o 10 (.load true 2 (T 3)), on_ (.store 2 (T 2) (T 10))]),
    .ret])
theorem ok10 : cfn Try.prog Try.f10 1 = some (s10, [.cell 2 true 2]) := by kernel_rfl

/-! 11 laws.sameInts -/
def s11 : SCode :=
  (sqs [
    (.reg [o 4 (.mov (B false))]),
    (sqs [
      (.reg [o 6 (.mov (T 0)), o 7 (.len (T 6)), o 8 (.mov (T 1)), o 9 (.len (T 8)), o 10 (.bin .neq (T 7) (T 9))]),
      (.cond (T 10)
        (sqs [
          (.reg [o 4 (.mov (B false))]),
          .ret])
        .skip)]),
    (sqs [
      (.reg [o 5 (.mov (I 0))]),
      (.block 0
        (.loop
          (sqs [
            (sqs [
              (.reg [o 11 (.mov (T 5)), o 12 (.mov (T 0)), o 13 (.len (T 12)), o 14 (.bin .lss (T 11) (T 13))]),
              (.cond (T 14)
                .skip
                (.exit 0))]),
            (.block 1
              (sqs [
                (.regD [o 17 (.mov (T 0)), o 18 (.mov (T 5)), o 19 (.idxAddr 1 (T 17) (T 18)), ⟨some 20, (.load false 1 (T 19)), none, 3, []⟩, o 21 (.mov (T 1)), o 22 (.mov (T 5)), o 23 (.idxAddr 1 (T 21) (T 22)), ⟨some 24, (.load false 1 (T 23)), none, 7, []⟩, o 25 (.bin .neq (T 20) (T 24))]),
                (.cond (T 25)
                  (sqs [
                    (.reg [o 4 (.mov (B false))]),
                    .ret])
                  .skip)])),
            (.reg [o 15 (.mov (T 5)), o 16 (.bin .add (T 15) (I 1)), o 5 (.mov (T 16))])])))]),
    (.reg [o 4 (.mov (B true))]),
    .ret])
theorem ok11 : cfn Try.prog Try.f11 2 = some (s11, [.tmp 4]) := by kernel_rfl

/-! 12 laws.szDevice -/
def s12 : SCode :=
  (sqs [
    (.reg [o 2 (.box 2 (T 0)), o 4 (.mov (I 0))]),
    (.reg [o 5 (.fieldAddr 0 (T 2)), o 6 (.load false 1 (T 5)), o 7 (.mov (T 1)), o 8 (.call 27 [(T 6), (T 7)]), o 1 (.mov (T 8))]),
    (sqs [
      (.reg [o 9 (.mov (T 1)), o 10 (.bin .lss (T 9) (I 0))]),
      (.cond (T 10)
        (sqs [
          (.reg [o 4 (.mov (I (-1)))]),
          .ret])
        .skip)]),
    (.reg [o 11 (.fieldAddr 1 (T 2)), o 12 (.load false 1 (T 11)), o 13 (.mov (T 1)), o 14 (.call 28 [(T 12), (T 13)]), o 1 (.mov (T 14))]),
    (sqs [
      (.reg [o 15 (.mov (T 1)), o 16 (.bin .lss (T 15) (I 0))]),
      (.cond (T 16)
        (sqs [
          (.reg [o 4 (.mov (I (-1)))]),
          .ret])
        .skip)]),
    (.reg [o 17 (.mov (T 1)), o 4 (.mov (T 17))]),
    .ret])
theorem ok12 : cfn Try.prog Try.f12 2 = some (s12, [.tmp 4]) := by kernel_rfl

/-! 13 spec.Configure -/
def s13 : SCode :=
  (sqs [
    (.reg [o 3 (.box 2 (T 0)), o 4 (.box 2 (T 1)), o 6 (.zero [.nils, .nils]), o 7 (.mov (B false))]),
    (.reg [o 9 (.load true 2 (T 3)), o 10 (.call 29 [(T 9)]), o 8 (.hole 2), o 8 (.birth 2 (T 8) (T 10))]),
    (sqs [
      (.reg [o 11 (.load true 2 (T 3)), o 12 (.call 30 [(T 11)]), o 13 (.not (T 12)), o 14 (.mov (T 13)), og 15 (.fieldAddr 0 (T 4)) 14 false, og 16 (.load false 1 (T 15)) 14 false, og 17 (.call 31 [(T 16), (I 0), (I 3)]) 14 false, og 18 (.not (T 17)) 14 false, o 19 (.pick (T 14) (B true) (T 18)), o 20 (.mov (T 19)), og 21 (.fieldAddr 1 (T 4)) 20 false, og 22 (.load false 1 (T 21)) 20 false, og 23 (.call 32 [(T 22)]) 20 false, og 24 (.not (T 23)) 20 false, o 25 (.pick (T 20) (B true) (T 24)), o 26 (.mov (T 25)), og 27 (.mov (T 2)) 26 false, og 28 (.call 31 [(T 27), (I 0), (I 2)]) 26 false, og 29 (.not (T 28)) 26 false, o 30 (.pick (T 26) (B true) (T 29))]),
      (.cond (T 30)
        (sqs [
          (.reg [o 31 (.load true 2 (T 8)), on_ (.store 2 (T 6) (T 31)), o 7 (.mov (B false))]),
          .ret])
        .skip)]),
    (sqs [
      (.reg [o 32 (.mov (T 2)), o 33 (.bin .geq (T 32) (I 1))]),
      (.cond (T 33)
        (.reg [o 34 (.fieldAddr 1 (T 8)), o 35 (.load false 1 (T 34)), o 36 (.load true 2 (T 4)), o 37 (.call 33 [(T 35), (T 36)]), o 38 (.fieldAddr 1 (T 8)), on_ (.store 1 (T 38) (T 37))])
        .skip)]),
    (sqs [
      (.reg [o 39 (.mov (T 2)), o 40 (.bin .eql (T 39) (I 2))]),
      (.cond (T 40)
        (.reg [o 41 (.fieldAddr 0 (T 8)), o 42 (.load false 1 (T 41)), o 43 (.fieldAddr 0 (T 4)), o 44 (.load false 1 (T 43)), o 45 (.fieldAddr 1 (T 4)), o 46 (.load false 1 (T 45)), o 47 (.idxAddr 1 (T 42) (T 44)), on_ (.store 1 (T 47) (T 46))])
        .skip)]),
    (.reg [o 48 (.load true 2 (T 8)), on_ (.store 2 (T 6) (T 48)), o 7 (.mov (B true))]),
    .ret])
theorem ok13 : cfn Try.prog Try.f13 3 = some (s13, [.cell 6 true 2, .tmp 7]) := by kernel_rfl

/-! 14 laws.toDevice -/
def s14 : SCode :=
  (sqs [
    (.reg [o 1 (.box 2 (T 0)), o 2 (.zero [.nils, .nils])]),
    (.reg [o 3 (.zero [.nils, .nils])]),
    (.reg [o 4 (.fieldAddr 0 (T 1)), o 5 (.load false 1 (T 4)), o 6 (.call 34 [(T 5)]), o 7 (.fieldAddr 0 (T 3)), on_ (.store 1 (T 7) (T 6))]),
    (.reg [o 8 (.fieldAddr 1 (T 1)), o 9 (.load false 1 (T 8)), o 10 (.call 35 [(T 9)]), o 11 (.fieldAddr 1 (T 3)), on_ (.store 1 (T 11) (T 10))]),
    (.reg [o 12 (.load true 2 (T 3)), on_ (.store 2 (T 2) (T 12))]),
    .ret])
theorem ok14 : cfn Try.prog Try.f14 1 = some (s14, [.cell 2 true 2]) := by kernel_rfl

/-! 15 laws.toSetting -/
def s15 : SCode :=
  (sqs [
    (.reg [o 1 (.box 2 (T 0)), o 2 (.zero [(.int .i64 0), (.int .i64 0)])]),
    (.reg [o 3 (.zero [(.int .i64 0), (.int .i64 0)])]),
    (.reg [o 4 (.fieldAddr 0 (T 1)), o 5 (.load false 1 (T 4)), o 6 (.fieldAddr 0 (T 3)), on_ (.store 1 (T 6) (T 5))]),
    (.reg [o 7 (.fieldAddr 1 (T 1)), o 8 (.load false 1 (T 7)), o 9 (.fieldAddr 1 (T 3)), on_ (.store 1 (T 9) (T 8))]),
    (.reg [o 10 (.load true 2 (T 3)), on_ (.store 2 (T 2) (T 10))]),
    .ret])
theorem ok15 : cfn Try.prog Try.f15 1 = some (s15, [.cell 2 true 2]) := by kernel_rfl

/-! 16 laws.eqDevice -/
def s16 : SCode :=
  (sqs [
    (.reg [o 2 (.box 2 (T 0)), o 3 (.box 2 (T 1)), o 4 (.mov (B false))]),
    (sqs [
      (.reg [o 5 (.fieldAddr 0 (T 2)), o 6 (.load false 1 (T 5)), o 7 (.fieldAddr 0 (T 3)), o 8 (.load false 1 (T 7)), o 9 (.call 36 [(T 6), (T 8)]), o 10 (.not (T 9))]),
      (.cond (T 10)
        (sqs [
          (.reg [o 4 (.mov (B false))]),
          .ret])
        .skip)]),
    (sqs [
      (.reg [o 11 (.fieldAddr 1 (T 2)), o 12 (.load false 1 (T 11)), o 13 (.fieldAddr 1 (T 3)), o 14 (.load false 1 (T 13)), o 15 (.call 37 [(T 12), (T 14)]), o 16 (.not (T 15))]),
      (.cond (T 16)
        (sqs [
          (.reg [o 4 (.mov (B false))]),
          .ret])
        .skip)]),
    (.reg [o 4 (.mov (B true))]),
    .ret])
theorem ok16 : cfn Try.prog Try.f16 2 = some (s16, [.tmp 4]) := by kernel_rfl

/-! 17 laws.markDevice -/
def s17 : SCode :=
  (sqs [
    (.reg [o 2 (.box 2 (T 0)), o 4 (.mov (I 0))]),
    (.reg [o 5 (.fieldAddr 0 (T 2)), o 6 (.load false 1 (T 5)), o 7 (.mov (T 1)), o 8 (.call 38 [(T 6), (T 7)]), o 1 (.mov (T 8))]),
    (.reg [o 9 (.fieldAddr 1 (T 2)), o 10 (.load false 1 (T 9)), o 11 (.mov (T 1)), o 12 (.call 39 [(T 10), (T 11)]), o 1 (.mov (T 12))]),
    (.reg [o 13 (.mov (T 1)), o 4 (.mov (T 13))]),
    .ret])
theorem ok17 : cfn Try.prog Try.f17 2 = some (s17, [.tmp 4]) := by kernel_rfl

/-! 18 laws.heldDevice -/
def s18 : SCode :=
  (sqs [
    (.reg [o 2 (.box 2 (T 0)), o 4 (.mov (I 0))]),
    (.reg [o 5 (.fieldAddr 0 (T 2)), o 6 (.load false 1 (T 5)), o 7 (.mov (T 1)), o 8 (.call 40 [(T 6), (T 7)]), o 1 (.mov (T 8))]),
    (sqs [
      (.reg [o 9 (.mov (T 1)), o 10 (.bin .lss (T 9) (I 0))]),
      (.cond (T 10)
        (sqs [
          (.reg [o 4 (.mov (I (-1)))]),
          .ret])
        .skip)]),
    (.reg [o 11 (.fieldAddr 1 (T 2)), o 12 (.load false 1 (T 11)), o 13 (.mov (T 1)), o 14 (.call 41 [(T 12), (T 13)]), o 1 (.mov (T 14))]),
    (sqs [
      (.reg [o 15 (.mov (T 1)), o 16 (.bin .lss (T 15) (I 0))]),
      (.cond (T 16)
        (sqs [
          (.reg [o 4 (.mov (I (-1)))]),
          .ret])
        .skip)]),
    (.reg [o 17 (.mov (T 1)), o 4 (.mov (T 17))]),
    .ret])
theorem ok18 : cfn Try.prog Try.f18 2 = some (s18, [.tmp 4]) := by kernel_rfl

/-! 19 spec.l26Device -/
def s19 : SCode :=
  (sqs [
    (.reg [o 2 (.zero [.nils, .nils])]),
    (.reg [o 5 (.call 42 []), o 3 (.hole 2), o 3 (.birth 2 (T 3) (T 5))]),
    (sqs [
      (.reg [o 4 (.mov (I 0))]),
      (.block 0
        (.loop
          (sqs [
            (sqs [
              (.reg [o 6 (.mov (T 4)), o 7 (.mov (T 0)), o 8 (.call 21 [(T 7), (I 5)]), o 9 (.bin .lss (T 6) (T 8))]),
              (.cond (T 9)
                .skip
                (.exit 0))]),
            (.block 1
              (.regD [o 13 (.load true 2 (T 3)), o 14 (.mov (T 0)), o 16 (.mov (T 0)), o 19 (.mov (T 0)), o 20 (.litq 3 1 [(.int .i64 0)] [(0, (I 2)), (1, (I 2)), (2, (I 1))]), ⟨some 15, (.call 21 [(T 14), (I 4)]), none, 0, [0]⟩, ⟨some 17, (.call 21 [(T 16), (I 90)]), none, 0, [0]⟩, o 18 (.build [(.int .i64 0), (.int .i64 0)] [(0, 1, (T 15)), (1, 1, (T 17))]), ⟨some 21, (.call 43 [(T 19), (T 20)]), none, 0, [0]⟩, o 22 (.call 13 [(T 13), (T 18), (T 21)]), o 12 (.mov (T 22)), o 23 (.ext 0 (T 12)), o 24 (.ext 1 (T 12)), on_ (.store 2 (T 3) (T 23))])),
            (.reg [o 10 (.mov (T 4)), o 11 (.bin .add (T 10) (I 1)), o 4 (.mov (T 11))])])))]),
    (sqs [
      (.reg [o 25 (.mov (T 0)), o 26 (.call 44 [(T 25), (I 4)])]),
      (.cond (T 26)
        (.regD [o 27 (.fieldAddr 0 (T 3)), ⟨some 28, (.load false 1 (T 27)), none, 1, []⟩, o 29 (.mov (T 0)), o 31 (.mov (T 0)), ⟨some 30, (.call 21 [(T 29), (I 4)]), none, 0, [1]⟩, ⟨some 32, (.call 21 [(T 31), (I 9)]), none, 0, [1]⟩, o 33 (.idxAddr 1 (T 28) (T 30)), on_ (.store 1 (T 33) (T 32))])
        .skip)]),
    (.reg [o 34 (.load true 2 (T 3)), on_ (.store 2 (T 2) (T 34))]),
    .ret])
theorem ok19 : cfn Try.prog Try.f19 1 = some (s19, [.cell 2 true 2]) := by kernel_rfl

/-! 20 spec.l01New -/
def s20 : SCode :=
  (sqs [
    (.reg [o 2 (.mov (.val .nilp))]),
    (.reg [o 5 (.mov (T 0)), o 6 (.len (T 5)), o 7 (.bin .add (I 98347) (T 6)), o 3 (.mov (T 7))]),
    (sqs [
      (.reg [o 4 (.mov (I 0))]),
      (.block 0
        (.loop
          (sqs [
            (sqs [
              (.reg [o 8 (.mov (T 4)), o 9 (.mov (T 0)), o 10 (.len (T 9)), o 11 (.bin .lss (T 8) (T 10)), o 12 (.mov (T 11)), og 13 (.mov (T 4)) 12 true, og 14 (.bin .lss (T 13) (I 4000)) 12 true, o 15 (.pick (T 12) (T 14) (B false))]),
              (.cond (T 15)
                .skip
                (.exit 0))]),
            (.block 1
              (.reg [o 18 (.mov (T 3)), o 19 (.bin .mul (T 18) (I 131)), o 20 (.mov (T 0)), o 21 (.mov (T 4)), o 22 (.idxAddr 1 (T 20) (T 21)), o 23 (.load false 1 (T 22)), o 24 (.conv .i64 (T 23)), o 25 (.bin .add (T 19) (T 24)), o 26 (.bin .add (T 25) (I 7)), o 27 (.bin .and (T 26) (I 1073741823)), o 3 (.mov (T 27))])),
            (.reg [o 16 (.mov (T 4)), o 17 (.bin .add (T 16) (I 1)), o 4 (.mov (T 17))])])))]),
    (.reg [o 28 (.mov (T 0)), o 29 (.mov (T 3)), o 30 (.build [.nils, (.int .i64 0), (.int .i64 0)] [(0, 1, (T 28)), (2, 1, (T 29))]), o 31 (.box 3 (T 30)), o 2 (.mov (T 31))]),
    .ret])
theorem ok20 : cfn Try.prog Try.f20 1 = some (s20, [.tmp 2]) := by kernel_rfl

/-! 21 spec.l01Below -/
def s21 : SCode :=
  (sqs [
    (.reg [o 4 (.mov (I 0))]),
    (sqs [
      (.reg [o 9 (.mov (T 1)), o 10 (.bin .leq (T 9) (I 0))]),
      (.cond (T 10)
        (sqs [
          (.reg [o 4 (.mov (I 0))]),
          .ret])
        .skip)]),
    (sqs [
      (.reg [o 11 (.mov (T 1)), o 12 (.bin .leq (T 11) (I 256))]),
      (.cond (T 12)
        (sqs [
          (.reg [o 13 (.mov (T 0)), o 14 (.call 45 [(T 13)]), o 15 (.mov (T 1)), o 16 (.bin .rem (T 14) (T 15)), o 4 (.mov (T 16))]),
          .ret])
        .skip)]),
    (.reg [o 17 (.mov (T 0)), o 18 (.call 45 [(T 17)]), o 5 (.mov (T 18))]),
    (.reg [o 19 (.mov (T 0)), o 20 (.call 45 [(T 19)]), o 6 (.mov (T 20))]),
    (.reg [o 21 (.mov (T 0)), o 22 (.call 45 [(T 21)]), o 7 (.mov (T 22))]),
    (.reg [o 23 (.mov (T 0)), o 24 (.call 45 [(T 23)]), o 8 (.mov (T 24))]),
    (.reg [o 25 (.mov (T 5)), o 26 (.bin .mul (T 25) (I 16777216)), o 27 (.mov (T 6)), o 28 (.bin .mul (T 27) (I 65536)), o 29 (.bin .add (T 26) (T 28)), o 30 (.mov (T 7)), o 31 (.bin .mul (T 30) (I 256)), o 32 (.bin .add (T 29) (T 31)), o 33 (.mov (T 8)), o 34 (.bin .add (T 32) (T 33)), o 35 (.mov (T 1)), o 36 (.bin .rem (T 34) (T 35)), o 4 (.mov (T 36))]),
    .ret])
theorem ok21 : cfn Try.prog Try.f21 2 = some (s21, [.tmp 4]) := by kernel_rfl

/-! 22 impl.copyDevice -/
def s22 : SCode :=
  (sqs [
    (.reg [o 1 (.box 2 (T 0)), o 2 (.zero [.nils, .nils])]),
    (.regD [o 3 (.fieldAddr 0 (T 1)), ⟨some 4, (.load false 1 (T 3)), none, 1, []⟩, o 6 (.fieldAddr 1 (T 1)), ⟨some 7, (.load false 1 (T 6)), none, 4, []⟩, ⟨some 5, (.call 46 [(T 4)]), none, 0, [4]⟩, o 8 (.call 47 [(T 7)]), o 9 (.build [.nils, .nils] [(0, 1, (T 5)), (1, 1, (T 8))]), on_ (.store 2 (T 2) (T 9))]),
    .ret])
theorem ok22 : cfn Try.prog Try.f22 1 = some (s22, [.cell 2 true 2]) := by kernel_rfl

/-! 23 impl.DeviceOk -/
def s23 : SCode :=
  (sqs [
    (.reg [o 1 (.box 2 (T 0)), o 2 (.mov (B false))]),
    (sqs [
      (.reg [o 5 (.fieldAddr 1 (T 1)), o 6 (.load false 1 (T 5)), o 7 (.len (T 6)), o 8 (.mov (I 0))]),
      (.block 0
        (.loop
          (sqs [
            (.reg [o 9 (.bin .lss (T 8) (T 7))]),
            (.cond (T 9)
              .skip
              (.exit 0)),
            (.block 1
              (sqs [
                (.reg [o 10 (.mov (T 8)), o 11 (.idxAddr 2 (T 6) (T 8)), o 12 (.load true 2 (T 11)), o 4 (.hole 2), o 3 (.mov (T 10)), o 4 (.birth 2 (T 4) (T 12))]),
                (.regD [o 13 (.load true 2 (T 4)), o 14 (.call 24 [(T 13)]), o 15 (.not (T 14)), o 16 (.mov (T 15)), og 17 (.mov (T 3)) 16 false, og 18 (.bin .gtr (T 17) (I 0)) 16 false, og 19 (.mov (T 18)) 16 false, og 20 (.fieldAddr 0 (T 4)) 19 true, ⟨some 21, (.load false 1 (T 20)), some (19, true), 8, []⟩, og 22 (.fieldAddr 1 (T 1)) 19 true, ⟨some 23, (.load false 1 (T 22)), some (19, true), 10, []⟩, og 24 (.mov (T 3)) 19 true, og 25 (.bin .sub (T 24) (I 1)) 19 true, og 26 (.idxAddr 2 (T 23) (T 25)) 19 true, og 27 (.fieldAddr 0 (T 26)) 19 true, ⟨some 28, (.load false 1 (T 27)), some (19, true), 15, []⟩, og 29 (.bin .leq (T 21) (T 28)) 19 true, og 30 (.pick (T 19) (T 29) (B false)) 16 false, o 31 (.pick (T 16) (B true) (T 30))]),
                (.cond (T 31)
                  (sqs [
                    (.reg [o 2 (.mov (B false))]),
                    .ret])
                  .skip)])),
            (.reg [o 32 (.bin .add (T 8) (I 1)), o 8 (.mov (T 32))])])))]),
    (.reg [o 33 (.fieldAddr 0 (T 1)), o 34 (.load false 1 (T 33)), o 35 (.len (T 34)), o 36 (.bin .eql (T 35) (I 4)), o 37 (.mov (T 36)), og 38 (.fieldAddr 0 (T 1)) 37 true, og 39 (.load false 1 (T 38)) 37 true, og 40 (.call 48 [(T 39)]) 37 true, o 41 (.pick (T 37) (T 40) (B false)), o 2 (.mov (T 41))]),
    .ret])
theorem ok23 : cfn Try.prog Try.f23 1 = some (s23, [.tmp 2]) := by kernel_rfl

/-! 24 impl.isSetting -/
def s24 : SCode :=
  (sqs [
    (.reg [o 1 (.box 2 (T 0)), o 2 (.mov (B false))]),
    (.reg [o 3 (.fieldAddr 0 (T 1)), o 4 (.load false 1 (T 3)), o 5 (.call 25 [(T 4), (I 0), (I 3)]), o 6 (.mov (T 5)), og 7 (.fieldAddr 1 (T 1)) 6 true, og 8 (.load false 1 (T 7)) 6 true, og 9 (.call 49 [(T 8)]) 6 true, o 10 (.pick (T 6) (T 9) (B false)), o 2 (.mov (T 10))]),
    .ret])
theorem ok24 : cfn Try.prog Try.f24 1 = some (s24, [.tmp 2]) := by kernel_rfl

/-! 25 impl.within -/
def s25 : SCode :=
  (sqs [
    (.reg [o 6 (.mov (B false))]),
    (.reg [o 7 (.mov (T 0)), o 8 (.mov (T 1)), o 9 (.bin .geq (T 7) (T 8)), o 10 (.mov (T 9)), og 11 (.mov (T 0)) 10 true, og 12 (.mov (T 2)) 10 true, og 13 (.bin .leq (T 11) (T 12)) 10 true, o 14 (.pick (T 10) (T 13) (B false)), o 6 (.mov (T 14))]),
    .ret])
theorem ok25 : cfn Try.prog Try.f25 3 = some (s25, [.tmp 6]) := by kernel_rfl

/-! 26 (*impl.Device).keep -/
def s26 : SCode :=
  (sqs [
    (.reg [o 3 (.box 2 (T 1))]),
    (.reg [o 5 (.mov (T 0)), o 6 (.nilchk (T 5)), o 7 (.fieldAddr 1 (T 6)), o 8 (.load false 1 (T 7)), o 9 (.mkfn 51 [(T 3)]), o 10 (.call 50 [(T 8), (T 9)]), o 4 (.mov (T 10))]),
    (.block 0
      (sqs [
        (.reg [o 23 (.mov (T 4)), o 24 (.bin .lss (T 23) (I 0)), o 22 (.mov (T 24))]),
        (.cond (T 22)
          (.regD [o 25 (.mov (T 0)), o 26 (.mov (T 0)), o 27 (.nilchk (T 26)), o 28 (.fieldAddr 1 (T 27)), ⟨some 29, (.load false 1 (T 28)), none, 4, []⟩, ⟨some 30, (.load true 2 (T 3)), none, 5, []⟩, ⟨some 31, (.lit 1 2 [(.int .i64 0), (.int .i64 0)] [(0, (T 30))]), none, 0, [4]⟩, o 32 (.append 2 16 (T 29) (T 31)), o 33 (.nilchk (T 25)), o 34 (.fieldAddr 1 (T 33)), on_ (.store 1 (T 34) (T 32))])
          (sqs [
            (.regD [o 36 (.mov (T 0)), o 37 (.nilchk (T 36)), o 38 (.fieldAddr 1 (T 37)), ⟨some 39, (.load false 1 (T 38)), none, 3, []⟩, o 40 (.mov (T 4)), o 41 (.idxAddr 2 (T 39) (T 40)), o 42 (.fieldAddr 0 (T 41)), ⟨some 43, (.load false 1 (T 42)), none, 7, []⟩, o 44 (.fieldAddr 0 (T 3)), ⟨some 45, (.load false 1 (T 44)), none, 9, []⟩, o 46 (.bin .eql (T 43) (T 45)), o 35 (.mov (T 46))]),
            (.cond (T 35)
              (.regD [o 47 (.mov (T 0)), o 48 (.nilchk (T 47)), o 49 (.fieldAddr 1 (T 48)), ⟨some 50, (.load false 1 (T 49)), none, 3, []⟩, o 51 (.mov (T 4)), ⟨some 52, (.load true 2 (T 3)), none, 5, []⟩, o 53 (.idxAddr 2 (T 50) (T 51)), on_ (.store 2 (T 53) (T 52))])
              (.regD [o 11 (.mov (T 0)), o 12 (.mov (T 0)), o 13 (.nilchk (T 12)), o 14 (.fieldAddr 1 (T 13)), ⟨some 15, (.load false 1 (T 14)), none, 4, []⟩, o 16 (.mov (T 4)), ⟨some 17, (.load true 2 (T 3)), none, 6, []⟩, ⟨some 18, (.lit 1 2 [(.int .i64 0), (.int .i64 0)] [(0, (T 17))]), none, 0, [4]⟩, o 19 (.call 52 [(T 15), (T 16), (T 18)]), o 20 (.nilchk (T 11)), o 21 (.fieldAddr 1 (T 20)), on_ (.store 1 (T 21) (T 19))]))]))]))])
theorem ok26 : cfn Try.prog Try.f26 2 = some (s26, []) := by kernel_rfl

/-! 27 laws.szIntS -/
def s27 : SCode :=
  (sqs [
    (.reg [o 4 (.mov (I 0))]),
    (.reg [o 5 (.mov (T 1)), o 6 (.mov (T 0)), o 7 (.len (T 6)), o 8 (.bin .sub (T 5) (T 7)), o 1 (.mov (T 8))]),
    (sqs [
      (.reg [o 9 (.mov (T 1)), o 10 (.bin .lss (T 9) (I 0))]),
      (.cond (T 10)
        (sqs [
          (.reg [o 4 (.mov (I (-1)))]),
          .ret])
        .skip)]),
    (.reg [o 11 (.mov (T 1)), o 4 (.mov (T 11))]),
    .ret])
theorem ok27 : cfn Try.prog Try.f27 2 = some (s27, [.tmp 4]) := by kernel_rfl

/-! 28 laws.szSettingS -/
def s28 : SCode :=
  (sqs [
    (.reg [o 4 (.mov (I 0))]),
    (.reg [o 5 (.mov (T 1)), o 6 (.mov (T 0)), o 7 (.len (T 6)), o 8 (.bin .sub (T 5) (T 7)), o 1 (.mov (T 8))]),
    (sqs [
      (.reg [o 9 (.mov (T 1)), o 10 (.bin .lss (T 9) (I 0))]),
      (.cond (T 10)
        (sqs [
          (.reg [o 4 (.mov (I (-1)))]),
          .ret])
        .skip)]),
    (.reg [o 11 (.mov (T 1)), o 4 (.mov (T 11))]),
    .ret])
theorem ok28 : cfn Try.prog Try.f28 2 = some (s28, [.tmp 4]) := by kernel_rfl

/-! 29 spec.l26Copy -/
def s29 : SCode :=
  (sqs [
    (.reg [o 1 (.box 2 (T 0)), o 2 (.zero [.nils, .nils])]),
    (.regD [o 3 (.litq 0 1 [(.int .i64 0)] []), o 4 (.fieldAddr 0 (T 1)), ⟨some 5, (.load false 1 (T 4)), none, 2, []⟩, o 7 (.litq 0 2 [(.int .i64 0), (.int .i64 0)] []), o 8 (.fieldAddr 1 (T 1)), ⟨some 9, (.load false 1 (T 8)), none, 6, []⟩, ⟨some 6, (.append 1 8 (T 3) (T 5)), none, 0, [6]⟩, o 10 (.append 2 16 (T 7) (T 9)), o 11 (.build [.nils, .nils] [(0, 1, (T 6)), (1, 1, (T 10))]), on_ (.store 2 (T 2) (T 11))]),
    .ret])
theorem ok29 : cfn Try.prog Try.f29 1 = some (s29, [.cell 2 true 2]) := by kernel_rfl

/-! 30 spec.DeviceOk -/
def s30 : SCode :=
  (sqs [
    (.reg [o 1 (.box 2 (T 0)), o 2 (.mov (B false))]),
    (sqs [
      (.reg [o 6 (.fieldAddr 0 (T 1)), o 7 (.load false 1 (T 6)), o 8 (.len (T 7)), o 9 (.bin .neq (T 8) (I 4)), o 10 (.mov (T 9)), og 11 (.fieldAddr 0 (T 1)) 10 false, og 12 (.load false 1 (T 11)) 10 false, og 13 (.call 53 [(T 12)]) 10 false, og 14 (.not (T 13)) 10 false, o 15 (.pick (T 10) (B true) (T 14))]),
      (.cond (T 15)
        (sqs [
          (.reg [o 2 (.mov (B false))]),
          .ret])
        .skip)]),
    (.reg [o 3 (.mov (I (-1)))]),
    (sqs [
      (.reg [o 4 (.mov (I 0))]),
      (.block 0
        (.loop
          (sqs [
            (sqs [
              (.reg [o 16 (.mov (T 4)), o 17 (.fieldAddr 1 (T 1)), o 18 (.load false 1 (T 17)), o 19 (.len (T 18)), o 20 (.bin .lss (T 16) (T 19))]),
              (.cond (T 20)
                .skip
                (.exit 0))]),
            (.block 1
              (sqs [
                (.reg [o 23 (.fieldAddr 1 (T 1)), o 24 (.load false 1 (T 23)), o 25 (.mov (T 4)), o 26 (.idxAddr 2 (T 24) (T 25)), o 27 (.load true 2 (T 26)), o 5 (.hole 2), o 5 (.birth 2 (T 5) (T 27))]),
                (sqs [
                  (.reg [o 28 (.fieldAddr 0 (T 5)), o 29 (.load false 1 (T 28)), o 30 (.mov (T 3)), o 31 (.bin .add (T 30) (I 1)), o 32 (.call 31 [(T 29), (T 31), (I 3)]), o 33 (.not (T 32)), o 34 (.mov (T 33)), og 35 (.fieldAddr 1 (T 5)) 34 false, og 36 (.load false 1 (T 35)) 34 false, og 37 (.call 32 [(T 36)]) 34 false, og 38 (.not (T 37)) 34 false, o 39 (.pick (T 34) (B true) (T 38))]),
                  (.cond (T 39)
                    (sqs [
                      (.reg [o 2 (.mov (B false))]),
                      .ret])
                    .skip)]),
                (.reg [o 40 (.fieldAddr 0 (T 5)), o 41 (.load false 1 (T 40)), o 3 (.mov (T 41))])])),
            (.reg [o 21 (.mov (T 4)), o 22 (.bin .add (T 21) (I 1)), o 4 (.mov (T 22))])])))]),
    (.reg [o 2 (.mov (B true))]),
    .ret])
theorem ok30 : cfn Try.prog Try.f30 1 = some (s30, [.tmp 2]) := by kernel_rfl

/-! 31 spec.l01In -/
def s31 : SCode :=
  (sqs [
    (.reg [o 6 (.mov (B false))]),
    (.reg [o 7 (.mov (T 0)), o 8 (.mov (T 1)), o 9 (.bin .geq (T 7) (T 8)), o 10 (.mov (T 9)), og 11 (.mov (T 0)) 10 true, og 12 (.mov (T 2)) 10 true, og 13 (.bin .leq (T 11) (T 12)) 10 true, o 14 (.pick (T 10) (T 13) (B false)), o 6 (.mov (T 14))]),
    .ret])
theorem ok31 : cfn Try.prog Try.f31 3 = some (s31, [.tmp 6]) := by kernel_rfl

/-! 32 spec.IsValue -/
def s32 : SCode :=
  (sqs [
    (.reg [o 2 (.mov (B false))]),
    (.reg [o 3 (.mov (T 0)), o 4 (.call 31 [(T 3), (I (-1000000)), (I 1000000)]), o 2 (.mov (T 4))]),
    .ret])
theorem ok32 : cfn Try.prog Try.f32 1 = some (s32, [.tmp 2]) := by kernel_rfl

/-! 33 spec.l26Put -/
def s33 : SCode :=
  (sqs [
    (.reg [o 3 (.box 2 (T 1)), o 4 (.mov N)]),
    (.reg [o 5 (.mov (I 0))]),
    (.block 0
      (.loop
        (sqs [
          (sqs [
            (.regD [o 7 (.mov (T 5)), o 8 (.mov (T 0)), o 9 (.len (T 8)), o 10 (.bin .lss (T 7) (T 9)), o 11 (.mov (T 10)), og 12 (.mov (T 0)) 11 true, og 13 (.mov (T 5)) 11 true, og 14 (.idxAddr 2 (T 12) (T 13)) 11 true, og 15 (.fieldAddr 0 (T 14)) 11 true, ⟨some 16, (.load false 1 (T 15)), some (11, true), 9, []⟩, og 17 (.fieldAddr 0 (T 3)) 11 true, ⟨some 18, (.load false 1 (T 17)), some (11, true), 11, []⟩, og 19 (.bin .lss (T 16) (T 18)) 11 true, o 20 (.pick (T 11) (T 19) (B false))]),
            (.cond (T 20)
              .skip
              (.exit 0))]),
          (.block 1
            (.reg [o 21 (.mov (T 5)), o 22 (.bin .add (T 21) (I 1)), o 5 (.mov (T 22))]))]))),
    (.reg [o 23 (.lit 0 2 [(.int .i64 0), (.int .i64 0)] []), o 24 (.mov (T 0)), o 25 (.mov (T 5)), o 26 (.slice 2 (T 24) none (some (T 25))), o 27 (.append 2 16 (T 23) (T 26)), o 6 (.mov (T 27))]),
    (.reg [o 28 (.mov (T 6)), o 29 (.load true 2 (T 3)), o 30 (.lit 1 2 [(.int .i64 0), (.int .i64 0)] [(0, (T 29))]), o 31 (.append 2 16 (T 28) (T 30)), o 6 (.mov (T 31))]),
    (sqs [
      (.regD [o 32 (.mov (T 5)), o 33 (.mov (T 0)), o 34 (.len (T 33)), o 35 (.bin .lss (T 32) (T 34)), o 36 (.mov (T 35)), og 37 (.mov (T 0)) 36 true, og 38 (.mov (T 5)) 36 true, og 39 (.idxAddr 2 (T 37) (T 38)) 36 true, og 40 (.fieldAddr 0 (T 39)) 36 true, ⟨some 41, (.load false 1 (T 40)), some (36, true), 9, []⟩, og 42 (.fieldAddr 0 (T 3)) 36 true, ⟨some 43, (.load false 1 (T 42)), some (36, true), 11, []⟩, og 44 (.bin .eql (T 41) (T 43)) 36 true, o 45 (.pick (T 36) (T 44) (B false))]),
      (.cond (T 45)
        (.reg [o 46 (.mov (T 5)), o 47 (.bin .add (T 46) (I 1)), o 5 (.mov (T 47))])
        .skip)]),
    (.reg [o 48 (.mov (T 6)), o 49 (.mov (T 0)), o 50 (.mov (T 5)), o 51 (.slice 2 (T 49) (some (T 50)) none), o 52 (.append 2 16 (T 48) (T 51)), o 4 (.mov (T 52))]),
    .ret])
theorem ok33 : cfn Try.prog Try.f33 2 = some (s33, [.tmp 4]) := by kernel_rfl

/-! 34 laws.toIntS -/
def s34 : SCode :=
  (sqs [
    (.reg [o 2 (.mov N)]),
    (.reg [o 5 (.mov (T 0)), o 6 (.len (T 5)), o 7 (.make 1 8 [(.int .i64 0)] (T 6)), o 3 (.mov (T 7))]),
    (sqs [
      (.reg [o 4 (.mov (I 0))]),
      (.block 0
        (.loop
          (sqs [
            (sqs [
              (.reg [o 8 (.mov (T 4)), o 9 (.mov (T 0)), o 10 (.len (T 9)), o 11 (.bin .lss (T 8) (T 10))]),
              (.cond (T 11)
                .skip
                (.exit 0))]),
            (.block 1
              (.reg [o 14 (.mov (T 3)), o 15 (.mov (T 4)), o 16 (.mov (T 0)), o 17 (.mov (T 4)), o 18 (.idxAddr 1 (T 16) (T 17)), o 19 (.load false 1 (T 18)), o 20 (.idxAddr 1 (T 14) (T 15)), on_ (.store 1 (T 20) (T 19))])),
            (.reg [o 12 (.mov (T 4)), o 13 (.bin .add (T 12) (I 1)), o 4 (.mov (T 13))])])))]),
    (.reg [o 21 (.mov (T 3)), o 2 (.mov (T 21))]),
    .ret])
theorem ok34 : cfn Try.prog Try.f34 1 = some (s34, [.tmp 2]) := by kernel_rfl

/-! 35 laws.toSettingS -/
def s35 : SCode :=
  (sqs [
    (.reg [o 2 (.mov N)]),
    (.reg [o 5 (.mov (T 0)), o 6 (.len (T 5)), o 7 (.make 2 16 [(.int .i64 0), (.int .i64 0)] (T 6)), o 3 (.mov (T 7))]),
    (sqs [
      (.reg [o 4 (.mov (I 0))]),
      (.block 0
        (.loop
          (sqs [
            (sqs [
              (.reg [o 8 (.mov (T 4)), o 9 (.mov (T 0)), o 10 (.len (T 9)), o 11 (.bin .lss (T 8) (T 10))]),
              (.cond (T 11)
                .skip
                (.exit 0))]),
            (.block 1
              (.reg [o 14 (.mov (T 3)), o 15 (.mov (T 4)), o 16 (.mov (T 0)), o 17 (.mov (T 4)), o 18 (.idxAddr 2 (T 16) (T 17)), o 19 (.load true 2 (T 18)), o 20 (.call 15 [(T 19)]), o 21 (.idxAddr 2 (T 14) (T 15)), on_ (.store 2 (T 21) (T 20))])),
            (.reg [o 12 (.mov (T 4)), o 13 (.bin .add (T 12) (I 1)), o 4 (.mov (T 13))])])))]),
    (.reg [o 22 (.mov (T 3)), o 2 (.mov (T 22))]),
    .ret])
theorem ok35 : cfn Try.prog Try.f35 1 = some (s35, [.tmp 2]) := by kernel_rfl

/-! 36 laws.eqIntS -/
def s36 : SCode :=
  (sqs [
    (.reg [o 4 (.mov (B false))]),
    (sqs [
      (.reg [o 6 (.mov (T 0)), o 7 (.len (T 6)), o 8 (.mov (T 1)), o 9 (.len (T 8)), o 10 (.bin .neq (T 7) (T 9))]),
      (.cond (T 10)
        (sqs [
          (.reg [o 4 (.mov (B false))]),
          .ret])
        .skip)]),
    (sqs [
      (.reg [o 5 (.mov (I 0))]),
      (.block 0
        (.loop
          (sqs [
            (sqs [
              (.reg [o 11 (.mov (T 5)), o 12 (.mov (T 0)), o 13 (.len (T 12)), o 14 (.bin .lss (T 11) (T 13))]),
              (.cond (T 14)
                .skip
                (.exit 0))]),
            (.block 1
              (sqs [
                (.regD [o 17 (.mov (T 0)), o 18 (.mov (T 5)), o 19 (.idxAddr 1 (T 17) (T 18)), ⟨some 20, (.load false 1 (T 19)), none, 3, []⟩, o 21 (.mov (T 1)), o 22 (.mov (T 5)), o 23 (.idxAddr 1 (T 21) (T 22)), ⟨some 24, (.load false 1 (T 23)), none, 7, []⟩, o 25 (.bin .neq (T 20) (T 24))]),
                (.cond (T 25)
                  (sqs [
                    (.reg [o 4 (.mov (B false))]),
                    .ret])
                  .skip)])),
            (.reg [o 15 (.mov (T 5)), o 16 (.bin .add (T 15) (I 1)), o 5 (.mov (T 16))])])))]),
    (.reg [o 4 (.mov (B true))]),
    .ret])
theorem ok36 : cfn Try.prog Try.f36 2 = some (s36, [.tmp 4]) := by kernel_rfl

/-! 37 laws.eqSettingS -/
def s37 : SCode :=
  (sqs [
    (.reg [o 4 (.mov (B false))]),
    (sqs [
      (.reg [o 6 (.mov (T 0)), o 7 (.len (T 6)), o 8 (.mov (T 1)), o 9 (.len (T 8)), o 10 (.bin .neq (T 7) (T 9))]),
      (.cond (T 10)
        (sqs [
          (.reg [o 4 (.mov (B false))]),
          .ret])
        .skip)]),
    (sqs [
      (.reg [o 5 (.mov (I 0))]),
      (.block 0
        (.loop
          (sqs [
            (sqs [
              (.reg [o 11 (.mov (T 5)), o 12 (.mov (T 0)), o 13 (.len (T 12)), o 14 (.bin .lss (T 11) (T 13))]),
              (.cond (T 14)
                .skip
                (.exit 0))]),
            (.block 1
              (sqs [
                (.regD [o 17 (.mov (T 0)), o 18 (.mov (T 5)), o 19 (.idxAddr 2 (T 17) (T 18)), ⟨some 20, (.load true 2 (T 19)), none, 3, []⟩, o 21 (.mov (T 1)), o 22 (.mov (T 5)), o 23 (.idxAddr 2 (T 21) (T 22)), ⟨some 24, (.load true 2 (T 23)), none, 7, []⟩, o 25 (.call 54 [(T 20), (T 24)]), o 26 (.not (T 25))]),
                (.cond (T 26)
                  (sqs [
                    (.reg [o 4 (.mov (B false))]),
                    .ret])
                  .skip)])),
            (.reg [o 15 (.mov (T 5)), o 16 (.bin .add (T 15) (I 1)), o 5 (.mov (T 16))])])))]),
    (.reg [o 4 (.mov (B true))]),
    .ret])
theorem ok37 : cfn Try.prog Try.f37 2 = some (s37, [.tmp 4]) := by kernel_rfl

/-! 38 laws.markIntS -/
def s38 : SCode :=
  (sqs [
    (.reg [o 4 (.mov (I 0))]),
    (sqs [
      (.reg [o 5 (.mov (I 0))]),
      (.block 0
        (.loop
          (sqs [
            (sqs [
              (.reg [o 6 (.mov (T 5)), o 7 (.mov (T 0)), o 8 (.len (T 7)), o 9 (.bin .lss (T 6) (T 8))]),
              (.cond (T 9)
                .skip
                (.exit 0))]),
            (.block 1
              (sqs [
                (.reg [o 12 (.mov (T 0)), o 13 (.mov (T 5)), o 14 (.mov (T 1)), o 15 (.idxAddr 1 (T 12) (T 13)), on_ (.store 1 (T 15) (T 14))]),
                (.reg [o 16 (.mov (T 1)), o 17 (.bin .add (T 16) (I 1)), o 1 (.mov (T 17))])])),
            (.reg [o 10 (.mov (T 5)), o 11 (.bin .add (T 10) (I 1)), o 5 (.mov (T 11))])])))]),
    (.reg [o 18 (.mov (T 1)), o 4 (.mov (T 18))]),
    .ret])
theorem ok38 : cfn Try.prog Try.f38 2 = some (s38, [.tmp 4]) := by kernel_rfl

/-! 39 laws.markSettingS -/
def s39 : SCode :=
  (sqs [
    (.reg [o 4 (.mov (I 0))]),
    (sqs [
      (.reg [o 5 (.mov (I 0))]),
      (.block 0
        (.loop
          (sqs [
            (sqs [
              (.reg [o 6 (.mov (T 5)), o 7 (.mov (T 0)), o 8 (.len (T 7)), o 9 (.bin .lss (T 6) (T 8))]),
              (.cond (T 9)
                .skip
                (.exit 0))]),
            (.block 1
              (sqs [
                (.reg [o 12 (.mov (T 0)), o 13 (.mov (T 5)), o 14 (.mov (T 1)), o 15 (.idxAddr 2 (T 12) (T 13)), o 16 (.fieldAddr 0 (T 15)), on_ (.store 1 (T 16) (T 14))]),
                (.reg [o 17 (.mov (T 1)), o 18 (.bin .add (T 17) (I 1)), o 1 (.mov (T 18))]),
                (.reg [o 19 (.mov (T 0)), o 20 (.mov (T 5)), o 21 (.mov (T 1)), o 22 (.idxAddr 2 (T 19) (T 20)), o 23 (.fieldAddr 1 (T 22)), on_ (.store 1 (T 23) (T 21))]),
                (.reg [o 24 (.mov (T 1)), o 25 (.bin .add (T 24) (I 1)), o 1 (.mov (T 25))])])),
            (.reg [o 10 (.mov (T 5)), o 11 (.bin .add (T 10) (I 1)), o 5 (.mov (T 11))])])))]),
    (.reg [o 26 (.mov (T 1)), o 4 (.mov (T 26))]),
    .ret])
theorem ok39 : cfn Try.prog Try.f39 2 = some (s39, [.tmp 4]) := by kernel_rfl

/-! 40 laws.heldIntS -/
def s40 : SCode :=
  (sqs [
    (.reg [o 4 (.mov (I 0))]),
    (sqs [
      (.reg [o 5 (.mov (I 0))]),
      (.block 0
        (.loop
          (sqs [
            (sqs [
              (.reg [o 6 (.mov (T 5)), o 7 (.mov (T 0)), o 8 (.len (T 7)), o 9 (.bin .lss (T 6) (T 8))]),
              (.cond (T 9)
                .skip
                (.exit 0))]),
            (.block 1
              (sqs [
                (sqs [
                  (.reg [o 12 (.mov (T 0)), o 13 (.mov (T 5)), o 14 (.idxAddr 1 (T 12) (T 13)), o 15 (.load false 1 (T 14)), o 16 (.mov (T 1)), o 17 (.bin .neq (T 15) (T 16))]),
                  (.cond (T 17)
                    (sqs [
                      (.reg [o 4 (.mov (I (-1)))]),
                      .ret])
                    .skip)]),
                (.reg [o 18 (.mov (T 1)), o 19 (.bin .add (T 18) (I 1)), o 1 (.mov (T 19))])])),
            (.reg [o 10 (.mov (T 5)), o 11 (.bin .add (T 10) (I 1)), o 5 (.mov (T 11))])])))]),
    (.reg [o 20 (.mov (T 1)), o 4 (.mov (T 20))]),
    .ret])
theorem ok40 : cfn Try.prog Try.f40 2 = some (s40, [.tmp 4]) := by kernel_rfl

/-! 41 laws.heldSettingS -/
def s41 : SCode :=
  (sqs [
    (.reg [o 4 (.mov (I 0))]),
    (sqs [
      (.reg [o 5 (.mov (I 0))]),
      (.block 0
        (.loop
          (sqs [
            (sqs [
              (.reg [o 6 (.mov (T 5)), o 7 (.mov (T 0)), o 8 (.len (T 7)), o 9 (.bin .lss (T 6) (T 8))]),
              (.cond (T 9)
                .skip
                (.exit 0))]),
            (.block 1
              (sqs [
                (sqs [
                  (.reg [o 12 (.mov (T 0)), o 13 (.mov (T 5)), o 14 (.idxAddr 2 (T 12) (T 13)), o 15 (.fieldAddr 0 (T 14)), o 16 (.load false 1 (T 15)), o 17 (.mov (T 1)), o 18 (.bin .neq (T 16) (T 17))]),
                  (.cond (T 18)
                    (sqs [
                      (.reg [o 4 (.mov (I (-1)))]),
                      .ret])
                    .skip)]),
                (.reg [o 19 (.mov (T 1)), o 20 (.bin .add (T 19) (I 1)), o 1 (.mov (T 20))]),
                (sqs [
                  (.reg [o 21 (.mov (T 0)), o 22 (.mov (T 5)), o 23 (.idxAddr 2 (T 21) (T 22)), o 24 (.fieldAddr 1 (T 23)), o 25 (.load false 1 (T 24)), o 26 (.mov (T 1)), o 27 (.bin .neq (T 25) (T 26))]),
                  (.cond (T 27)
                    (sqs [
                      (.reg [o 4 (.mov (I (-1)))]),
                      .ret])
                    .skip)]),
                (.reg [o 28 (.mov (T 1)), o 29 (.bin .add (T 28) (I 1)), o 1 (.mov (T 29))])])),
            (.reg [o 10 (.mov (T 5)), o 11 (.bin .add (T 10) (I 1)), o 5 (.mov (T 11))])])))]),
    (.reg [o 30 (.mov (T 1)), o 4 (.mov (T 30))]),
    .ret])
theorem ok41 : cfn Try.prog Try.f41 2 = some (s41, [.tmp 4]) := by kernel_rfl

/-! 42 spec.DeviceNew -/
def s42 : SCode :=
  (sqs [
    (.reg [o 0 (.zero [.nils, .nils])]),
    (.reg [o 1 (.make 1 8 [(.int .i64 0)] (I 4)), o 2 (.build [.nils, .nils] [(0, 1, (T 1))]), on_ (.store 2 (T 0) (T 2))]),
    .ret])
theorem ok42 : cfn Try.prog Try.f42 0 = some (s42, [.cell 0 true 2]) := by kernel_rfl

/-! 43 spec.l01PickInt -/
def s43 : SCode :=
  (sqs [
    (.reg [o 4 (.mov (I 0))]),
    (.reg [o 5 (.mov (T 1)), o 6 (.mov (T 0)), o 7 (.mov (T 1)), o 8 (.len (T 7)), o 9 (.call 21 [(T 6), (T 8)]), o 10 (.idxAddr 1 (T 5) (T 9)), o 11 (.load false 1 (T 10)), o 4 (.mov (T 11))]),
    .ret])
theorem ok43 : cfn Try.prog Try.f43 2 = some (s43, [.tmp 4]) := by kernel_rfl

/-! 44 spec.l01Once -/
def s44 : SCode :=
  (sqs [
    (.reg [o 4 (.mov (B false))]),
    (.reg [o 5 (.mov (T 0)), o 6 (.mov (T 1)), o 7 (.call 21 [(T 5), (T 6)]), o 8 (.bin .eql (T 7) (I 0)), o 4 (.mov (T 8))]),
    .ret])
theorem ok44 : cfn Try.prog Try.f44 2 = some (s44, [.tmp 4]) := by kernel_rfl

/-! 45 spec.l01Byte -/
def s45 : SCode :=
  (sqs [
    (.reg [o 2 (.mov (I 0))]),
    (.reg [o 4 (.mov (T 0)), o 5 (.mov (T 0)), o 6 (.nilchk (T 5)), o 7 (.fieldAddr 2 (T 6)), o 8 (.load false 1 (T 7)), o 9 (.bin .mul (T 8) (I 6364136223846793005)), o 10 (.bin .add (T 9) (I 1442695040888963407)), o 11 (.nilchk (T 4)), o 12 (.fieldAddr 2 (T 11)), on_ (.store 1 (T 12) (T 10))]),
    (.regD [o 13 (.mov (T 0)), o 14 (.nilchk (T 13)), o 15 (.fieldAddr 2 (T 14)), ⟨some 16, (.load false 1 (T 15)), none, 3, []⟩, o 17 (.bin .shr (T 16) (.val (.int .u64 33))), o 18 (.mov (T 0)), o 19 (.nilchk (T 18)), o 20 (.fieldAddr 2 (T 19)), ⟨some 21, (.load false 1 (T 20)), none, 8, []⟩, o 22 (.bin .shr (T 21) (.val (.int .u64 45))), o 23 (.bin .xor (T 17) (T 22)), o 24 (.bin .and (T 23) (I 255)), o 3 (.mov (T 24))]),
    (sqs [
      (.regD [o 25 (.mov (T 0)), o 26 (.nilchk (T 25)), o 27 (.fieldAddr 1 (T 26)), ⟨some 28, (.load false 1 (T 27)), none, 3, []⟩, o 29 (.mov (T 0)), o 30 (.nilchk (T 29)), o 31 (.fieldAddr 0 (T 30)), ⟨some 32, (.load false 1 (T 31)), none, 7, []⟩, o 33 (.len (T 32)), o 34 (.bin .lss (T 28) (T 33))]),
      (.cond (T 34)
        (sqs [
          (.regD [o 35 (.mov (T 3)), o 36 (.mov (T 0)), o 37 (.nilchk (T 36)), o 38 (.fieldAddr 0 (T 37)), ⟨some 39, (.load false 1 (T 38)), none, 4, []⟩, o 40 (.mov (T 0)), o 41 (.nilchk (T 40)), o 42 (.fieldAddr 1 (T 41)), ⟨some 43, (.load false 1 (T 42)), none, 8, []⟩, o 44 (.idxAddr 1 (T 39) (T 43)), ⟨some 45, (.load false 1 (T 44)), none, 10, []⟩, o 46 (.conv .i64 (T 45)), o 47 (.bin .add (T 35) (T 46)), o 48 (.bin .and (T 47) (I 255)), o 3 (.mov (T 48))]),
          (.reg [o 49 (.mov (T 0)), o 50 (.mov (T 0)), o 51 (.nilchk (T 50)), o 52 (.fieldAddr 1 (T 51)), o 53 (.load false 1 (T 52)), o 54 (.bin .add (T 53) (I 1)), o 55 (.nilchk (T 49)), o 56 (.fieldAddr 1 (T 55)), on_ (.store 1 (T 56) (T 54))])])
        .skip)]),
    (.reg [o 57 (.mov (T 3)), o 2 (.mov (T 57))]),
    .ret])
theorem ok45 : cfn Try.prog Try.f45 1 = some (s45, [.tmp 2]) := by kernel_rfl

/-! 46 slices.Clone[[]int,int] -/
def s46 : SCode :=
  (sqs [
    (.reg [o 2 (.mov N)]),
    (sqs [
      (.reg [o 3 (.mov (T 0)), o 4 (.isnil 24 false (T 3))]),
      (.cond (T 4)
        (sqs [
          (.reg [o 2 (.mov N)]),
          .ret])
        .skip)]),
    (.reg [o 5 (.lit 0 1 [(.int .i64 0)] []), o 6 (.mov (T 0)), o 7 (.append 1 8 (T 5) (T 6)), o 2 (.mov (T 7))]),
    .ret])
theorem ok46 : cfn Try.prog Try.f46 1 = some (s46, [.tmp 2]) := by kernel_rfl

/-! 47 slices.Clone[[]impl.Setting,impl.Setting] -/
def s47 : SCode :=
  (sqs [
    (.reg [o 2 (.mov N)]),
    (sqs [
      (.reg [o 3 (.mov (T 0)), o 4 (.isnil 25 false (T 3))]),
      (.cond (T 4)
        (sqs [
          (.reg [o 2 (.mov N)]),
          .ret])
        .skip)]),
    (.reg [o 5 (.lit 0 2 [(.int .i64 0), (.int .i64 0)] []), o 6 (.mov (T 0)), o 7 (.append 2 16 (T 5) (T 6)), o 2 (.mov (T 7))]),
    .ret])
theorem ok47 : cfn Try.prog Try.f47 1 = some (s47, [.tmp 2]) := by kernel_rfl

/-! 48 impl.areValues -/
def s48 : SCode :=
  (sqs [
    (.reg [o 2 (.mov (B false))]),
    (.reg [o 3 (.mov (T 0)), o 4 (.call 55 [(T 3), (.val (.fn 56 []))]), o 5 (.not (T 4)), o 2 (.mov (T 5))]),
    .ret])
theorem ok48 : cfn Try.prog Try.f48 1 = some (s48, [.tmp 2]) := by kernel_rfl

/-! 49 impl.IsValue -/
def s49 : SCode :=
  (sqs [
    (.reg [o 2 (.mov (B false))]),
    (.reg [o 3 (.mov (T 0)), o 4 (.call 25 [(T 3), (I (-1000000)), (I 1000000)]), o 2 (.mov (T 4))]),
    .ret])
theorem ok49 : cfn Try.prog Try.f49 1 = some (s49, [.tmp 2]) := by kernel_rfl

/-! 50 slices.IndexFunc[[]impl.Setting,impl.Setting] -/
def s50 : SCode :=
  (sqs [
    (.reg [o 4 (.mov (I 0))]),
    (sqs [
      (.reg [o 6 (.mov (T 0)), o 7 (.len (T 6)), o 8 (.mov (I 0))]),
      (.block 0
        (.loop
          (sqs [
            (.reg [o 9 (.bin .lss (T 8) (T 7))]),
            (.cond (T 9)
              .skip
              (.exit 0)),
            (.block 1
              (sqs [
                (.reg [o 10 (.mov (T 8)), o 5 (.mov (T 10))]),
                (.reg [o 11 (.mov (T 1)), o 12 (.mov (T 0)), o 13 (.mov (T 5)), o 14 (.idxAddr 2 (T 12) (T 13)), o 15 (.load true 2 (T 14)), o 16 (.callv (T 11) [(T 15)])]),
                (.cond (T 16)
                  (sqs [
                    (.reg [o 17 (.mov (T 5)), o 4 (.mov (T 17))]),
                    .ret])
                  .skip)])),
            (.reg [o 18 (.bin .add (T 8) (I 1)), o 8 (.mov (T 18))])])))]),
    (.reg [o 4 (.mov (I (-1)))]),
    .ret])
theorem ok50 : cfn Try.prog Try.f50 2 = some (s50, [.tmp 4]) := by kernel_rfl

/-! 51 (*impl.Device).keep$1 -/
def s51 : SCode :=
  (sqs [
    (.reg [o 2 (.box 2 (T 0)), o 3 (.mov (B false))]),
    (.reg [o 4 (.fieldAddr 0 (T 2)), o 5 (.load false 1 (T 4)), o 6 (.fieldAddr 0 (T 1)), o 7 (.load false 1 (T 6)), o 8 (.bin .geq (T 5) (T 7)), o 3 (.mov (T 8))]),
    .ret])
theorem ok51 : cfn Try.prog Try.f51 2 = some (s51, [.tmp 3]) := by kernel_rfl

/-! 53 spec.l09Values -/
def s53 : SCode :=
  (sqs [
    (.reg [o 2 (.mov (B false))]),
    (sqs [
      (.reg [o 3 (.mov (I 0))]),
      (.block 0
        (.loop
          (sqs [
            (sqs [
              (.reg [o 4 (.mov (T 3)), o 5 (.mov (T 0)), o 6 (.len (T 5)), o 7 (.bin .lss (T 4) (T 6))]),
              (.cond (T 7)
                .skip
                (.exit 0))]),
            (.block 1
              (sqs [
                (.reg [o 10 (.mov (T 0)), o 11 (.mov (T 3)), o 12 (.idxAddr 1 (T 10) (T 11)), o 13 (.load false 1 (T 12)), o 14 (.call 32 [(T 13)]), o 15 (.not (T 14))]),
                (.cond (T 15)
                  (sqs [
                    (.reg [o 2 (.mov (B false))]),
                    .ret])
                  .skip)])),
            (.reg [o 8 (.mov (T 3)), o 9 (.bin .add (T 8) (I 1)), o 3 (.mov (T 9))])])))]),
    (.reg [o 2 (.mov (B true))]),
    .ret])
theorem ok53 : cfn Try.prog Try.f53 1 = some (s53, [.tmp 2]) := by kernel_rfl

/-! 54 laws.eqSetting -/
def s54 : SCode :=
  (sqs [
    (.reg [o 2 (.box 2 (T 0)), o 3 (.box 2 (T 1)), o 4 (.mov (B false))]),
    (sqs [
      (.reg [o 5 (.fieldAddr 0 (T 2)), o 6 (.load false 1 (T 5)), o 7 (.fieldAddr 0 (T 3)), o 8 (.load false 1 (T 7)), o 9 (.bin .neq (T 6) (T 8))]),
      (.cond (T 9)
        (sqs [
          (.reg [o 4 (.mov (B false))]),
          .ret])
        .skip)]),
    (sqs [
      (.reg [o 10 (.fieldAddr 1 (T 2)), o 11 (.load false 1 (T 10)), o 12 (.fieldAddr 1 (T 3)), o 13 (.load false 1 (T 12)), o 14 (.bin .neq (T 11) (T 13))]),
      (.cond (T 14)
        (sqs [
          (.reg [o 4 (.mov (B false))]),
          .ret])
        .skip)]),
    (.reg [o 4 (.mov (B true))]),
    .ret])
theorem ok54 : cfn Try.prog Try.f54 2 = some (s54, [.tmp 4]) := by kernel_rfl

/-! 55 slices.ContainsFunc[[]int,int] -/
def s55 : SCode :=
  (sqs [
    (.reg [o 4 (.mov (B false))]),
    (.reg [o 5 (.mov (T 0)), o 6 (.mov (T 1)), o 7 (.call 59 [(T 5), (T 6)]), o 8 (.bin .geq (T 7) (I 0)), o 4 (.mov (T 8))]),
    .ret])
theorem ok55 : cfn Try.prog Try.f55 2 = some (s55, [.tmp 4]) := by kernel_rfl

/-! 56 impl.areValues$1 -/
def s56 : SCode :=
  (sqs [
    (.reg [o 2 (.mov (B false))]),
    (.reg [o 3 (.mov (T 0)), o 4 (.call 49 [(T 3)]), o 5 (.not (T 4)), o 2 (.mov (T 5))]),
    .ret])
theorem ok56 : cfn Try.prog Try.f56 1 = some (s56, [.tmp 2]) := by kernel_rfl

/-! 58 slices.rotateRight[impl.Setting] -/
def s58 : SCode :=
  (.reg [o 4 (.mov (T 0)), o 5 (.mov (T 0)), o 6 (.len (T 5)), o 7 (.mov (T 1)), o 8 (.bin .sub (T 6) (T 7)), o 9 (.call 60 [(T 4), (T 8)])])
theorem ok58 : cfn Try.prog Try.f58 2 = some (s58, []) := by kernel_rfl

/-! 59 slices.IndexFunc[[]int,int] -/
def s59 : SCode :=
  (sqs [
    (.reg [o 4 (.mov (I 0))]),
    (sqs [
      (.reg [o 6 (.mov (T 0)), o 7 (.len (T 6)), o 8 (.mov (I 0))]),
      (.block 0
        (.loop
          (sqs [
            (.reg [o 9 (.bin .lss (T 8) (T 7))]),
            (.cond (T 9)
              .skip
              (.exit 0)),
            (.block 1
              (sqs [
                (.reg [o 10 (.mov (T 8)), o 5 (.mov (T 10))]),
                (.reg [o 11 (.mov (T 1)), o 12 (.mov (T 0)), o 13 (.mov (T 5)), o 14 (.idxAddr 1 (T 12) (T 13)), o 15 (.load false 1 (T 14)), o 16 (.callv (T 11) [(T 15)])]),
                (.cond (T 16)
                  (sqs [
                    (.reg [o 17 (.mov (T 5)), o 4 (.mov (T 17))]),
                    .ret])
                  .skip)])),
            (.reg [o 18 (.bin .add (T 8) (I 1)), o 8 (.mov (T 18))])])))]),
    (.reg [o 4 (.mov (I (-1)))]),
    .ret])
theorem ok59 : cfn Try.prog Try.f59 2 = some (s59, [.tmp 4]) := by kernel_rfl

/-! 60 slices.rotateLeft[impl.Setting] -/
def s60 : SCode :=
  (sqs [
    (.reg [o 4 (.mov (T 0)), o 5 (.mov (T 1)), o 6 (.slice 2 (T 4) none (some (T 5))), o 7 (.call 61 [(T 6)])]),
    (.reg [o 8 (.mov (T 0)), o 9 (.mov (T 1)), o 10 (.slice 2 (T 8) (some (T 9)) none), o 11 (.call 61 [(T 10)])]),
    (.reg [o 12 (.mov (T 0)), o 13 (.call 61 [(T 12)])])])
theorem ok60 : cfn Try.prog Try.f60 2 = some (s60, []) := by kernel_rfl

/-! 61 slices.Reverse[[]impl.Setting,impl.Setting] -/
def s61 : SCode :=
  (sqs [
    (.reg [o 4 (.mov (T 0)), o 5 (.len (T 4)), o 6 (.bin .sub (T 5) (I 1)), o 2 (.mov (I 0)), o 3 (.mov (T 6))]),
    (.block 0
      (.loop
        (sqs [
          (sqs [
            (.reg [o 7 (.mov (T 2)), o 8 (.mov (T 3)), o 9 (.bin .lss (T 7) (T 8))]),
            (.cond (T 9)
              .skip
              (.exit 0))]),
          (.block 1
            (.regD [o 14 (.mov (T 0)), o 15 (.mov (T 2)), o 16 (.mov (T 0)), o 17 (.mov (T 3)), o 18 (.mov (T 0)), o 19 (.mov (T 3)), o 20 (.idxAddr 2 (T 18) (T 19)), ⟨some 21, (.load true 2 (T 20)), none, 7, []⟩, o 22 (.mov (T 0)), o 23 (.mov (T 2)), o 24 (.idxAddr 2 (T 22) (T 23)), ⟨some 25, (.load true 2 (T 24)), none, 11, []⟩, o 26 (.idxAddr 2 (T 14) (T 15)), on_ (.store 2 (T 26) (T 21)), o 27 (.idxAddr 2 (T 16) (T 17)), on_ (.store 2 (T 27) (T 25))])),
          (.reg [o 10 (.mov (T 2)), o 11 (.bin .add (T 10) (I 1)), o 12 (.mov (T 3)), o 13 (.bin .sub (T 12) (I 1)), o 2 (.mov (T 11)), o 3 (.mov (T 13))])])))])
theorem ok61 : cfn Try.prog Try.f61 1 = some (s61, []) := by kernel_rfl

end Go.Av

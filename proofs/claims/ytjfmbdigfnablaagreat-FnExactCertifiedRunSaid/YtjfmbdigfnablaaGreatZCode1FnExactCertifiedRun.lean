import Derived.Test.YtjfmbdigfnablaaGreatAv23
import Derived.Test.YtjfmbdigfnablaaGreatProg
namespace Go.Av
open Go.Proofs
set_option maxRecDepth 1000000
/-! 12 laws.FnExactCertifiedRun -/
def s12 : SCode :=
  (sqs [
    (.reg [o 5 (.box 1 (T 0)), o 8 (.box 4 (T 3)), o 10 (.mov (B false))]),
    (sqs [
      (.reg [o 25 (.mov (T 1)), o 26 (.len (T 25)), o 27 (.bin .gtr (T 26) (I 1048576))]),
      (.cond (T 27)
        (sqs [
          (.reg [o 10 (.mov (B true))]),
          .ret])
        .skip)]),
    (sqs [
      (.reg [o 28 (.mov (T 2)), o 29 (.len (T 28)), o 30 (.bin .gtr (T 29) (I 1048576))]),
      (.cond (T 30)
        (sqs [
          (.reg [o 10 (.mov (B true))]),
          .ret])
        .skip)]),
    (sqs [
      (.reg [o 31 (.mov (T 4)), o 32 (.len (T 31)), o 33 (.bin .gtr (T 32) (I 1048576))]),
      (.cond (T 33)
        (sqs [
          (.reg [o 10 (.mov (B true))]),
          .ret])
        .skip)]),
    (.reg [o 11 (.mov (I 1048576))]),
    (.reg [o 34 (.load true 1 (T 5)), o 35 (.mov (T 11)), o 36 (.call 37 [(T 34), (T 35)]), o 11 (.mov (T 36))]),
    (sqs [
      (.reg [o 37 (.mov (T 11)), o 38 (.bin .lss (T 37) (I 0))]),
      (.cond (T 38)
        (sqs [
          (.reg [o 10 (.mov (B true))]),
          .ret])
        .skip)]),
    (.regD [o 40 (.load true 1 (T 5)), o 42 (.mov (T 1)), o 44 (.mov (T 2)), ⟨some 46, (.load true 4 (T 8)), none, 6, []⟩, o 48 (.mov (T 4)), o 12 (.hole 4), ⟨some 41, (.call 39 [(T 40)]), none, 0, [6]⟩, ⟨some 43, (.call 53 [(T 42)]), none, 0, [6]⟩, ⟨some 45, (.call 53 [(T 44)]), none, 0, [6]⟩, o 47 (.call 44 [(T 46)]), o 49 (.call 53 [(T 48)]), o 50 (.call 52 [(T 41), (T 43), (T 45), (T 47), (T 49)]), o 39 (.mov (T 50)), o 51 (.ext 0 (T 39)), o 52 (.ext 1 (T 39)), o 12 (.birth 4 (T 12) (T 51)), o 13 (.mov (T 52))]),
    (.reg [o 53 (.load true 1 (T 5)), o 54 (.call 39 [(T 53)]), o 14 (.hole 1), o 14 (.birth 1 (T 14) (T 54))]),
    (.reg [o 55 (.mov (T 1)), o 56 (.call 53 [(T 55)]), o 15 (.mov (T 56))]),
    (.reg [o 57 (.mov (T 2)), o 58 (.call 53 [(T 57)]), o 16 (.mov (T 58))]),
    (.reg [o 59 (.mov (T 4)), o 60 (.call 53 [(T 59)]), o 17 (.mov (T 60))]),
    (.regD [o 62 (.load true 1 (T 14)), o 63 (.mov (T 15)), o 64 (.mov (T 16)), ⟨some 65, (.load true 4 (T 8)), none, 3, []⟩, o 67 (.mov (T 17)), o 18 (.hole 4), ⟨some 66, (.call 44 [(T 65)]), none, 0, [0]⟩, o 68 (.call 16 [(T 62), (T 63), (T 64), (T 66), (T 67)]), o 61 (.mov (T 68)), o 69 (.ext 0 (T 61)), o 70 (.ext 1 (T 61)), o 18 (.birth 4 (T 18) (T 69)), o 19 (.mov (T 70))]),
    (sqs [
      (.reg [o 71 (.load true 4 (T 18)), o 72 (.load true 4 (T 12)), o 73 (.call 54 [(T 71), (T 72)]), o 74 (.not (T 73)), o 75 (.mov (T 74)), og 76 (.mov (T 19)) 75 false, og 77 (.mov (T 13)) 75 false, og 78 (.beq true (T 76) (T 77)) 75 false, o 79 (.pick (T 75) (B true) (T 78))]),
      (.cond (T 79)
        (sqs [
          (.reg [o 10 (.mov (B false))]),
          .ret])
        .skip)]),
    (sqs [
      (.regD [o 80 (.load true 1 (T 14)), ⟨some 81, (.load true 1 (T 5)), none, 1, []⟩, ⟨some 82, (.call 39 [(T 81)]), none, 0, [0]⟩, o 83 (.call 40 [(T 80), (T 82)]), o 84 (.not (T 83))]),
      (.cond (T 84)
        (sqs [
          (.reg [o 10 (.mov (B false))]),
          .ret])
        .skip)]),
    (sqs [
      (.reg [o 85 (.mov (T 15)), o 86 (.mov (T 1)), o 87 (.call 53 [(T 86)]), o 88 (.call 55 [(T 85), (T 87)]), o 89 (.not (T 88))]),
      (.cond (T 89)
        (sqs [
          (.reg [o 10 (.mov (B false))]),
          .ret])
        .skip)]),
    (sqs [
      (.reg [o 90 (.mov (T 16)), o 91 (.mov (T 2)), o 92 (.call 53 [(T 91)]), o 93 (.call 55 [(T 90), (T 92)]), o 94 (.not (T 93))]),
      (.cond (T 94)
        (sqs [
          (.reg [o 10 (.mov (B false))]),
          .ret])
        .skip)]),
    (sqs [
      (.reg [o 95 (.mov (T 17)), o 96 (.mov (T 4)), o 97 (.call 53 [(T 96)]), o 98 (.call 55 [(T 95), (T 97)]), o 99 (.not (T 98))]),
      (.cond (T 99)
        (sqs [
          (.reg [o 10 (.mov (B false))]),
          .ret])
        .skip)]),
    (.reg [o 20 (.mov (I 1))]),
    (.reg [o 100 (.load true 1 (T 14)), o 101 (.mov (T 20)), o 102 (.call 41 [(T 100), (T 101)]), o 20 (.mov (T 102))]),
    (.reg [o 103 (.mov (T 15)), o 104 (.mov (T 20)), o 105 (.call 56 [(T 103), (T 104)]), o 20 (.mov (T 105))]),
    (.reg [o 106 (.mov (T 16)), o 107 (.mov (T 20)), o 108 (.call 56 [(T 106), (T 107)]), o 20 (.mov (T 108))]),
    (.reg [o 109 (.mov (T 17)), o 110 (.mov (T 20)), o 111 (.call 56 [(T 109), (T 110)]), o 20 (.mov (T 111))]),
    (sqs [
      (.reg [o 112 (.mov (T 20)), o 113 (.bin .lss (T 112) (I 0)), o 114 (.mov (T 113)), og 115 (.load true 4 (T 18)) 114 false, og 116 (.load true 4 (T 12)) 114 false, og 117 (.call 54 [(T 115), (T 116)]) 114 false, og 118 (.not (T 117)) 114 false, o 119 (.pick (T 114) (B true) (T 118)), o 120 (.mov (T 119)), og 121 (.mov (T 19)) 120 false, og 122 (.mov (T 13)) 120 false, og 123 (.beq true (T 121) (T 122)) 120 false, o 124 (.pick (T 120) (B true) (T 123))]),
      (.cond (T 124)
        (sqs [
          (.reg [o 10 (.mov (B false))]),
          .ret])
        .skip)]),
    (.reg [o 21 (.mov (I 1))]),
    (.reg [o 125 (.load true 4 (T 18)), o 126 (.mov (T 21)), o 127 (.call 57 [(T 125), (T 126)]), o 21 (.mov (T 127))]),
    (.reg [o 22 (.mov (I 1))]),
    (.reg [o 128 (.load true 4 (T 18)), o 129 (.mov (T 22)), o 130 (.call 58 [(T 128), (T 129)]), o 22 (.mov (T 130))]),
    (sqs [
      (.reg [o 131 (.mov (T 22)), o 132 (.bin .lss (T 131) (I 0))]),
      (.cond (T 132)
        (sqs [
          (.reg [o 10 (.mov (B false))]),
          .ret])
        .skip)]),
    (sqs [
      (.reg [o 133 (.mov (T 22)), o 134 (.mov (T 21)), o 135 (.bin .neq (T 133) (T 134))]),
      (.cond (T 135)
        (sqs [
          (.reg [o 10 (.mov (B false))]),
          .ret])
        .skip)]),
    (.regD [o 137 (.load true 1 (T 5)), o 139 (.mov (T 1)), o 141 (.mov (T 2)), ⟨some 143, (.load true 4 (T 8)), none, 6, []⟩, o 145 (.mov (T 4)), o 23 (.hole 4), ⟨some 138, (.call 39 [(T 137)]), none, 0, [6]⟩, ⟨some 140, (.call 53 [(T 139)]), none, 0, [6]⟩, ⟨some 142, (.call 53 [(T 141)]), none, 0, [6]⟩, o 144 (.call 44 [(T 143)]), o 146 (.call 53 [(T 145)]), o 147 (.call 16 [(T 138), (T 140), (T 142), (T 144), (T 146)]), o 136 (.mov (T 147)), o 148 (.ext 0 (T 136)), o 149 (.ext 1 (T 136)), o 23 (.birth 4 (T 23) (T 148)), o 24 (.mov (T 149))]),
    (sqs [
      (.reg [o 150 (.load true 4 (T 23)), o 151 (.load true 4 (T 12)), o 152 (.call 54 [(T 150), (T 151)]), o 153 (.not (T 152)), o 154 (.mov (T 153)), og 155 (.mov (T 24)) 154 false, og 156 (.mov (T 13)) 154 false, og 157 (.beq true (T 155) (T 156)) 154 false, o 158 (.pick (T 154) (B true) (T 157))]),
      (.cond (T 158)
        (sqs [
          (.reg [o 10 (.mov (B false))]),
          .ret])
        .skip)]),
    (.reg [o 22 (.mov (I 1))]),
    (.reg [o 159 (.load true 4 (T 18)), o 160 (.mov (T 22)), o 161 (.call 58 [(T 159), (T 160)]), o 22 (.mov (T 161))]),
    (sqs [
      (.reg [o 162 (.mov (T 22)), o 163 (.bin .lss (T 162) (I 0))]),
      (.cond (T 163)
        (sqs [
          (.reg [o 10 (.mov (B false))]),
          .ret])
        .skip)]),
    (sqs [
      (.reg [o 164 (.mov (T 22)), o 165 (.mov (T 21)), o 166 (.bin .neq (T 164) (T 165))]),
      (.cond (T 166)
        (sqs [
          (.reg [o 10 (.mov (B false))]),
          .ret])
        .skip)]),
    (.reg [o 10 (.mov (B true))]),
    .ret])
theorem ok12 : cfn Tryz.prog Tryz.f12 5 = some (s12, [.tmp 10]) := by kernel_rfl

/-! 16 impl.CertifiedRun -/
def s16 : SCode :=
  (sqs [
    (.reg [o 5 (.box 1 (T 0)), o 8 (.box 4 (T 3)), o 10 (.zero [.nils, (.int .i64 0), .nils, .nils]), o 11 (.mov (B false))]),
    (.reg [o 15 (.load true 4 (T 8)), o 16 (.mov (T 4)), o 17 (.call 66 [(T 15), (T 16)]), o 14 (.mov (T 17)), o 18 (.ext 0 (T 14)), o 19 (.ext 1 (T 14)), o 12 (.mov (T 18)), o 13 (.mov (T 19))]),
    (sqs [
      (.reg [o 20 (.load true 1 (T 5)), o 21 (.load true 4 (T 8)), o 22 (.call 17 [(T 20), (T 21)]), o 23 (.not (T 22)), o 24 (.mov (T 23)), og 25 (.mov (T 13)) 24 false, og 26 (.not (T 25)) 24 false, o 27 (.pick (T 24) (B true) (T 26))]),
      (.cond (T 27)
        (sqs [
          (.reg [o 28 (.build [.nils, (.int .i64 0), .nils, .nils] []), on_ (.store 4 (T 10) (T 28)), o 11 (.mov (B false))]),
          .ret])
        .skip)]),
    (.regD [o 29 (.load true 1 (T 5)), o 30 (.mov (T 1)), o 31 (.mov (T 2)), o 32 (.mov (T 12)), o 33 (.mov (T 12)), o 34 (.len (T 33)), o 35 (.min (I 60) (T 34)), o 36 (.slice 1 (T 32) none (some (T 35))), o 37 (.call 46 [(T 29), (T 30), (T 31), (T 36)]), o 38 (.ext 0 (T 37)), o 39 (.ext 1 (T 37)), on_ (.store 4 (T 10) (T 38)), o 11 (.mov (T 39))]),
    .ret])
theorem ok16 : cfn Tryz.prog Tryz.f16 5 = some (s16, [.cell 10 true 4, .tmp 11]) := by kernel_rfl

/-! 17 impl.IsCertified -/
def s17 : SCode :=
  (sqs [
    (.reg [o 2 (.box 1 (T 0)), o 3 (.box 4 (T 1)), o 4 (.mov (B false))]),
    (.reg [o 5 (.load true 1 (T 2)), o 6 (.call 67 [(T 5)]), o 7 (.mov (T 6)), og 8 (.load true 4 (T 3)) 7 true, og 9 (.call 68 [(T 8)]) 7 true, o 10 (.pick (T 7) (T 9) (B false)), o 11 (.mov (T 10)), og 12 (.fieldAddr 0 (T 2)) 11 true, og 13 (.load false 1 (T 12)) 11 true, og 14 (.mkfn 70 [(T 3)]) 11 true, og 15 (.call 69 [(T 13), (T 14)]) 11 true, og 16 (.not (T 15)) 11 true, o 17 (.pick (T 11) (T 16) (B false)), o 4 (.mov (T 17))]),
    .ret])
theorem ok17 : cfn Tryz.prog Tryz.f17 2 = some (s17, [.tmp 4]) := by kernel_rfl

/-! 32 spec.UnpackControl -/
def s32 : SCode :=
  (sqs [
    (.reg [o 2 (.mov (I 0)), o 3 (.mov (I 0)), o 4 (.mov (I 0))]),
    (sqs [
      (.reg [o 8 (.mov (T 0)), o 9 (.bin .lss (T 8) (I 0)), o 10 (.mov (T 9)), og 11 (.mov (T 0)) 10 false, og 12 (.bin .gtr (T 11) (I 100000)) 10 false, o 13 (.pick (T 10) (B true) (T 12))]),
      (.cond (T 13)
        (sqs [
          (.reg [o 2 (.mov (I (-1))), o 3 (.mov (I (-1))), o 4 (.mov (I (-1)))]),
          .ret])
        .skip)]),
    (.reg [o 14 (.mov (T 0)), o 15 (.bin .rem (T 14) (I 8)), o 5 (.mov (T 15))]),
    (.reg [o 16 (.mov (T 0)), o 17 (.bin .quo (T 16) (I 8)), o 18 (.bin .rem (T 17) (I 16)), o 6 (.mov (T 18))]),
    (.reg [o 19 (.mov (T 0)), o 20 (.bin .quo (T 19) (I 128)), o 7 (.mov (T 20))]),
    (sqs [
      (.reg [o 21 (.mov (T 5)), o 22 (.mov (T 6)), o 23 (.mov (T 7)), o 24 (.call 62 [(T 21), (T 22), (T 23)]), o 25 (.mov (T 0)), o 26 (.bin .neq (T 24) (T 25))]),
      (.cond (T 26)
        (sqs [
          (.reg [o 2 (.mov (I (-1))), o 3 (.mov (I (-1))), o 4 (.mov (I (-1)))]),
          .ret])
        .skip)]),
    (.reg [o 27 (.mov (T 5)), o 28 (.mov (T 6)), o 29 (.mov (T 7)), o 2 (.mov (T 27)), o 3 (.mov (T 28)), o 4 (.mov (T 29))]),
    .ret])
theorem ok32 : cfn Tryz.prog Tryz.f32 1 = some (s32, [.tmp 2, .tmp 3, .tmp 4]) := by kernel_rfl

/-! 34 impl.TaskBound -/
def s34 : SCode :=
  (sqs [
    (.reg [o 1 (.box 4 (T 0)), o 2 (.mov (I 0))]),
    (sqs [
      (.reg [o 3 (.load true 4 (T 1)), o 4 (.call 93 [(T 3)]), o 5 (.not (T 4))]),
      (.cond (T 5)
        (sqs [
          (.reg [o 2 (.mov (I (-1)))]),
          .ret])
        .skip)]),
    (.regD [o 6 (.fieldAddr 0 (T 1)), ⟨some 7, (.load false 1 (T 6)), none, 1, []⟩, ⟨some 9, (.load true 4 (T 1)), none, 3, []⟩, ⟨some 8, (.call 94 [(T 7)]), none, 0, [3]⟩, o 10 (.call 95 [(T 9)]), o 11 (.len (T 10)), o 12 (.bin .mul (I 9) (T 11)), o 13 (.bin .add (T 8) (T 12)), o 14 (.bin .add (T 13) (I 1)), o 15 (.bin .add (T 14) (I 3)), o 2 (.mov (T 15))]),
    .ret])
theorem ok34 : cfn Tryz.prog Tryz.f34 1 = some (s34, [.tmp 2]) := by kernel_rfl

/-! 35 impl.BootBound -/
def s35 : SCode :=
  (sqs [
    (.reg [o 1 (.box 4 (T 0)), o 2 (.mov (I 0))]),
    (sqs [
      (.reg [o 3 (.load true 4 (T 1)), o 4 (.call 93 [(T 3)]), o 5 (.not (T 4))]),
      (.cond (T 5)
        (sqs [
          (.reg [o 2 (.mov (I (-1)))]),
          .ret])
        .skip)]),
    (.regD [o 6 (.load true 4 (T 1)), ⟨some 8, (.load true 4 (T 1)), none, 2, []⟩, ⟨some 7, (.call 34 [(T 6)]), none, 0, [2]⟩, o 9 (.call 95 [(T 8)]), o 10 (.len (T 9)), o 11 (.call 96 [(T 10)]), o 12 (.bin .add (T 7) (T 11)), o 2 (.mov (T 12))]),
    .ret])
theorem ok35 : cfn Tryz.prog Tryz.f35 1 = some (s35, [.tmp 2]) := by kernel_rfl

/-! 37 laws.szProgram -/
def s37 : SCode :=
  (sqs [
    (.reg [o 2 (.box 1 (T 0)), o 4 (.mov (I 0))]),
    (.reg [o 5 (.fieldAddr 0 (T 2)), o 6 (.load false 1 (T 5)), o 7 (.mov (T 1)), o 8 (.call 97 [(T 6), (T 7)]), o 1 (.mov (T 8))]),
    (sqs [
      (.reg [o 9 (.mov (T 1)), o 10 (.bin .lss (T 9) (I 0))]),
      (.cond (T 10)
        (sqs [
          (.reg [o 4 (.mov (I (-1)))]),
          .ret])
        .skip)]),
    (.reg [o 11 (.mov (T 1)), o 4 (.mov (T 11))]),
    .ret])
theorem ok37 : cfn Tryz.prog Tryz.f37 2 = some (s37, [.tmp 4]) := by kernel_rfl

/-! 39 laws.toProgram -/
def s39 : SCode :=
  (sqs [
    (.reg [o 1 (.box 1 (T 0)), o 2 (.zero [.nils])]),
    (.reg [o 3 (.zero [.nils])]),
    (.reg [o 4 (.fieldAddr 0 (T 1)), o 5 (.load false 1 (T 4)), o 6 (.call 103 [(T 5)]), o 7 (.fieldAddr 0 (T 3)), on_ (.store 1 (T 7) (T 6))]),
    (.reg [o 8 (.load true 1 (T 3)), on_ (.store 1 (T 2) (T 8))]),
    .ret])
theorem ok39 : cfn Tryz.prog Tryz.f39 1 = some (s39, [.cell 2 true 1]) := by kernel_rfl

/-! 40 laws.eqProgram -/
def s40 : SCode :=
  (sqs [
    (.reg [o 2 (.box 1 (T 0)), o 3 (.box 1 (T 1)), o 4 (.mov (B false))]),
    (sqs [
      (.reg [o 5 (.fieldAddr 0 (T 2)), o 6 (.load false 1 (T 5)), o 7 (.fieldAddr 0 (T 3)), o 8 (.load false 1 (T 7)), o 9 (.call 104 [(T 6), (T 8)]), o 10 (.not (T 9))]),
      (.cond (T 10)
        (sqs [
          (.reg [o 4 (.mov (B false))]),
          .ret])
        .skip)]),
    (.reg [o 4 (.mov (B true))]),
    .ret])
theorem ok40 : cfn Tryz.prog Tryz.f40 2 = some (s40, [.tmp 4]) := by kernel_rfl

/-! 41 laws.markProgram -/
def s41 : SCode :=
  (sqs [
    (.reg [o 2 (.box 1 (T 0)), o 4 (.mov (I 0))]),
    (.reg [o 5 (.fieldAddr 0 (T 2)), o 6 (.load false 1 (T 5)), o 7 (.mov (T 1)), o 8 (.call 105 [(T 6), (T 7)]), o 1 (.mov (T 8))]),
    (.reg [o 9 (.mov (T 1)), o 4 (.mov (T 9))]),
    .ret])
theorem ok41 : cfn Tryz.prog Tryz.f41 2 = some (s41, [.tmp 4]) := by kernel_rfl

/-! 43 spec.IsCertified -/
def s43 : SCode :=
  (sqs [
    (.reg [o 2 (.box 1 (T 0)), o 3 (.box 4 (T 1)), o 4 (.mov (B false))]),
    (sqs [
      (.reg [o 6 (.load true 1 (T 2)), o 7 (.call 107 [(T 6)]), o 8 (.not (T 7)), o 9 (.mov (T 8)), og 10 (.load true 4 (T 3)) 9 false, og 11 (.call 108 [(T 10)]) 9 false, og 12 (.not (T 11)) 9 false, o 13 (.pick (T 9) (B true) (T 12))]),
      (.cond (T 13)
        (sqs [
          (.reg [o 4 (.mov (B false))]),
          .ret])
        .skip)]),
    (sqs [
      (.reg [o 5 (.mov (I 0))]),
      (.block 0
        (.loop
          (sqs [
            (sqs [
              (.reg [o 14 (.mov (T 5)), o 15 (.fieldAddr 0 (T 2)), o 16 (.load false 1 (T 15)), o 17 (.len (T 16)), o 18 (.bin .lss (T 14) (T 17))]),
              (.cond (T 18)
                .skip
                (.exit 0))]),
            (.block 1
              (sqs [
                (.regD [o 21 (.fieldAddr 0 (T 2)), ⟨some 22, (.load false 1 (T 21)), none, 1, []⟩, o 23 (.mov (T 5)), o 24 (.idxAddr 4 (T 22) (T 23)), ⟨some 25, (.load true 4 (T 24)), none, 4, []⟩, o 27 (.fieldAddr 2 (T 3)), ⟨some 28, (.load false 1 (T 27)), none, 7, []⟩, ⟨some 26, (.call 109 [(T 25)]), none, 0, [7]⟩, o 29 (.bin .gtr (T 26) (T 28))]),
                (.cond (T 29)
                  (sqs [
                    (.reg [o 4 (.mov (B false))]),
                    .ret])
                  .skip)])),
            (.reg [o 19 (.mov (T 5)), o 20 (.bin .add (T 19) (I 1)), o 5 (.mov (T 20))])])))]),
    (.reg [o 4 (.mov (B true))]),
    .ret])
theorem ok43 : cfn Tryz.prog Tryz.f43 2 = some (s43, [.tmp 4]) := by kernel_rfl

/-! 44 laws.toStore -/
def s44 : SCode :=
  (sqs [
    (.reg [o 1 (.box 4 (T 0)), o 2 (.zero [(.int .i64 0), (.int .i64 0), (.int .i64 0), (.int .i64 0)])]),
    (.reg [o 3 (.zero [(.int .i64 0), (.int .i64 0), (.int .i64 0), (.int .i64 0)])]),
    (.reg [o 4 (.fieldAddr 0 (T 1)), o 5 (.load false 1 (T 4)), o 6 (.fieldAddr 0 (T 3)), on_ (.store 1 (T 6) (T 5))]),
    (.reg [o 7 (.fieldAddr 1 (T 1)), o 8 (.load false 1 (T 7)), o 9 (.fieldAddr 1 (T 3)), on_ (.store 1 (T 9) (T 8))]),
    (.reg [o 10 (.fieldAddr 2 (T 1)), o 11 (.load false 1 (T 10)), o 12 (.fieldAddr 2 (T 3)), on_ (.store 1 (T 12) (T 11))]),
    (.reg [o 13 (.fieldAddr 3 (T 1)), o 14 (.load false 1 (T 13)), o 15 (.fieldAddr 3 (T 3)), on_ (.store 1 (T 15) (T 14))]),
    (.reg [o 16 (.load true 4 (T 3)), on_ (.store 4 (T 2) (T 16))]),
    .ret])
theorem ok44 : cfn Tryz.prog Tryz.f44 1 = some (s44, [.cell 2 true 4]) := by kernel_rfl

/-! 46 impl.RunBoots -/
def s46 : SCode :=
  (sqs [
    (.reg [o 4 (.box 1 (T 0)), o 8 (.zero [.nils, (.int .i64 0), .nils, .nils]), o 9 (.mov (B false))]),
    (sqs [
      (.reg [o 14 (.load true 1 (T 4)), o 15 (.mov (T 1)), o 16 (.mov (T 2)), o 17 (.call 111 [(T 14), (T 15), (T 16), (I 0)]), o 18 (.not (T 17)), o 19 (.mov (T 18)), og 20 (.mov (T 3)) 19 false, og 21 (.len (T 20)) 19 false, og 22 (.bin .gtr (T 21) (I 60)) 19 false, o 23 (.pick (T 19) (B true) (T 22)), o 24 (.mov (T 23)), og 25 (.mov (T 3)) 24 false, og 26 (.call 112 [(T 25), (.val (.fn 113 []))]) 24 false, o 27 (.pick (T 24) (B true) (T 26))]),
      (.cond (T 27)
        (sqs [
          (.reg [o 28 (.build [.nils, (.int .i64 0), .nils, .nils] []), on_ (.store 4 (T 8) (T 28)), o 9 (.mov (B false))]),
          .ret])
        .skip)]),
    (.reg [o 29 (.mov (T 1)), o 30 (.call 115 [(T 29)]), o 31 (.build [.nils, (.int .i64 0), .nils, .nils] [(0, 1, (T 30))]), o 10 (.hole 4), o 10 (.birth 4 (T 10) (T 31))]),
    (sqs [
      (.reg [o 32 (.mov (T 3)), o 33 (.len (T 32)), o 34 (.mov (I 0))]),
      (.block 0
        (.loop
          (sqs [
            (.reg [o 35 (.bin .lss (T 34) (T 33))]),
            (.cond (T 35)
              .skip
              (.exit 0)),
            (.block 1
              (sqs [
                (.reg [o 36 (.idxAddr 1 (T 32) (T 34)), o 37 (.load false 1 (T 36)), o 12 (.mov (T 37))]),
                (.reg [o 38 (.load true 1 (T 4)), o 39 (.fieldAddr 0 (T 10)), o 40 (.load false 1 (T 39)), o 41 (.mov (T 2)), o 42 (.fieldAddr 1 (T 10)), o 43 (.load false 1 (T 42)), o 44 (.mov (T 12)), o 45 (.call 116 [(T 38), (T 40), (T 41), (T 43), (T 44)]), o 13 (.hole 4), o 13 (.birth 4 (T 13) (T 45))]),
                (.regD [o 46 (.fieldAddr 0 (T 13)), ⟨some 47, (.load false 1 (T 46)), none, 1, []⟩, o 48 (.fieldAddr 1 (T 13)), ⟨some 49, (.load false 1 (T 48)), none, 3, []⟩, o 50 (.fieldAddr 0 (T 10)), ⟨none, (.store 1 (T 50) (T 47)), none, 0, [3]⟩, o 51 (.fieldAddr 1 (T 10)), on_ (.store 1 (T 51) (T 49))]),
                (.reg [o 52 (.fieldAddr 2 (T 10)), o 53 (.load false 1 (T 52)), o 54 (.fieldAddr 2 (T 13)), o 55 (.load false 1 (T 54)), o 56 (.append 1 24 (T 53) (T 55)), o 57 (.fieldAddr 2 (T 10)), on_ (.store 1 (T 57) (T 56))]),
                (.reg [o 58 (.fieldAddr 3 (T 10)), o 59 (.load false 1 (T 58)), o 60 (.fieldAddr 2 (T 13)), o 61 (.load false 1 (T 60)), o 62 (.len (T 61)), o 63 (.lit 1 1 [(.int .i64 0)] [(0, (T 62))]), o 64 (.append 1 8 (T 59) (T 63)), o 65 (.fieldAddr 3 (T 10)), on_ (.store 1 (T 65) (T 64))])])),
            (.reg [o 66 (.bin .add (T 34) (I 1)), o 34 (.mov (T 66))])])))]),
    (.reg [o 67 (.load true 4 (T 10)), on_ (.store 4 (T 8) (T 67)), o 9 (.mov (B true))]),
    .ret])
theorem ok46 : cfn Tryz.prog Tryz.f46 4 = some (s46, [.cell 8 true 4, .tmp 9]) := by kernel_rfl

/-! 52 spec.CertifiedRun -/
def s52 : SCode :=
  (sqs [
    (.reg [o 5 (.box 1 (T 0)), o 8 (.box 4 (T 3)), o 10 (.zero [.nils, (.int .i64 0), .nils, .nils]), o 11 (.mov (B false))]),
    (.reg [o 15 (.load true 4 (T 8)), o 16 (.mov (T 4)), o 17 (.call 120 [(T 15), (T 16)]), o 14 (.mov (T 17)), o 18 (.ext 0 (T 14)), o 19 (.ext 1 (T 14)), o 12 (.mov (T 18)), o 13 (.mov (T 19))]),
    (sqs [
      (.reg [o 20 (.mov (T 13)), o 21 (.not (T 20)), o 22 (.mov (T 21)), og 23 (.load true 1 (T 5)) 22 false, og 24 (.load true 4 (T 8)) 22 false, og 25 (.call 43 [(T 23), (T 24)]) 22 false, og 26 (.not (T 25)) 22 false, o 27 (.pick (T 22) (B true) (T 26))]),
      (.cond (T 27)
        (sqs [
          (.reg [o 28 (.build [.nils, (.int .i64 0), .nils, .nils] []), on_ (.store 4 (T 10) (T 28)), o 11 (.mov (B false))]),
          .ret])
        .skip)]),
    (.reg [o 29 (.load true 1 (T 5)), o 30 (.mov (T 1)), o 31 (.mov (T 2)), o 32 (.mov (T 12)), o 33 (.call 121 [(T 29), (T 30), (T 31), (T 32)]), o 34 (.ext 0 (T 33)), o 35 (.ext 1 (T 33)), on_ (.store 4 (T 10) (T 34)), o 11 (.mov (T 35))]),
    .ret])
theorem ok52 : cfn Tryz.prog Tryz.f52 5 = some (s52, [.cell 10 true 4, .tmp 11]) := by kernel_rfl

/-! 53 laws.toIntS -/
def s53 : SCode :=
  (sqs [
    (.reg [o 2 (.mov N)]),
    (.reg [o 5 (.mov (T 0)), o 6 (.len (T 5)), o 7 (.make 1 8 [(.int .i64 0)] (T 6)), o 3 (.mov (T 7))]),
    (sqs [
      (.reg [o 4 (.mov (I 0))]),
      (.block 0
        (.loop
          (sqs [
            (sqs [
              (.reg [o 8 (.mov (T 4)), o 9 (.mov (T 0)), o 10 (.len (T 9)), o 11 (.bin .lss (T 8) (T 10))]),
              (.cond (T 11)
                .skip
                (.exit 0))]),
            (.block 1
              (.reg [o 14 (.mov (T 3)), o 15 (.mov (T 4)), o 16 (.mov (T 0)), o 17 (.mov (T 4)), o 18 (.idxAddr 1 (T 16) (T 17)), o 19 (.load false 1 (T 18)), o 20 (.idxAddr 1 (T 14) (T 15)), on_ (.store 1 (T 20) (T 19))])),
            (.reg [o 12 (.mov (T 4)), o 13 (.bin .add (T 12) (I 1)), o 4 (.mov (T 13))])])))]),
    (.reg [o 21 (.mov (T 3)), o 2 (.mov (T 21))]),
    .ret])
theorem ok53 : cfn Tryz.prog Tryz.f53 1 = some (s53, [.tmp 2]) := by kernel_rfl

/-! 54 laws.eqRun -/
def s54 : SCode :=
  (sqs [
    (.reg [o 2 (.box 4 (T 0)), o 3 (.box 4 (T 1)), o 4 (.mov (B false))]),
    (sqs [
      (.reg [o 5 (.fieldAddr 0 (T 2)), o 6 (.load false 1 (T 5)), o 7 (.fieldAddr 0 (T 3)), o 8 (.load false 1 (T 7)), o 9 (.call 55 [(T 6), (T 8)]), o 10 (.not (T 9))]),
      (.cond (T 10)
        (sqs [
          (.reg [o 4 (.mov (B false))]),
          .ret])
        .skip)]),
    (sqs [
      (.reg [o 11 (.fieldAddr 1 (T 2)), o 12 (.load false 1 (T 11)), o 13 (.fieldAddr 1 (T 3)), o 14 (.load false 1 (T 13)), o 15 (.bin .neq (T 12) (T 14))]),
      (.cond (T 15)
        (sqs [
          (.reg [o 4 (.mov (B false))]),
          .ret])
        .skip)]),
    (sqs [
      (.reg [o 16 (.fieldAddr 2 (T 2)), o 17 (.load false 1 (T 16)), o 18 (.fieldAddr 2 (T 3)), o 19 (.load false 1 (T 18)), o 20 (.call 122 [(T 17), (T 19)]), o 21 (.not (T 20))]),
      (.cond (T 21)
        (sqs [
          (.reg [o 4 (.mov (B false))]),
          .ret])
        .skip)]),
    (sqs [
      (.reg [o 22 (.fieldAddr 3 (T 2)), o 23 (.load false 1 (T 22)), o 24 (.fieldAddr 3 (T 3)), o 25 (.load false 1 (T 24)), o 26 (.call 55 [(T 23), (T 25)]), o 27 (.not (T 26))]),
      (.cond (T 27)
        (sqs [
          (.reg [o 4 (.mov (B false))]),
          .ret])
        .skip)]),
    (.reg [o 4 (.mov (B true))]),
    .ret])
theorem ok54 : cfn Tryz.prog Tryz.f54 2 = some (s54, [.tmp 4]) := by kernel_rfl

/-! 55 laws.eqIntS -/
def s55 : SCode :=
  (sqs [
    (.reg [o 4 (.mov (B false))]),
    (sqs [
      (.reg [o 6 (.mov (T 0)), o 7 (.len (T 6)), o 8 (.mov (T 1)), o 9 (.len (T 8)), o 10 (.bin .neq (T 7) (T 9))]),
      (.cond (T 10)
        (sqs [
          (.reg [o 4 (.mov (B false))]),
          .ret])
        .skip)]),
    (sqs [
      (.reg [o 5 (.mov (I 0))]),
      (.block 0
        (.loop
          (sqs [
            (sqs [
              (.reg [o 11 (.mov (T 5)), o 12 (.mov (T 0)), o 13 (.len (T 12)), o 14 (.bin .lss (T 11) (T 13))]),
              (.cond (T 14)
                .skip
                (.exit 0))]),
            (.block 1
              (sqs [
                (.regD [o 17 (.mov (T 0)), o 18 (.mov (T 5)), o 19 (.idxAddr 1 (T 17) (T 18)), ⟨some 20, (.load false 1 (T 19)), none, 3, []⟩, o 21 (.mov (T 1)), o 22 (.mov (T 5)), o 23 (.idxAddr 1 (T 21) (T 22)), ⟨some 24, (.load false 1 (T 23)), none, 7, []⟩, o 25 (.bin .neq (T 20) (T 24))]),
                (.cond (T 25)
                  (sqs [
                    (.reg [o 4 (.mov (B false))]),
                    .ret])
                  .skip)])),
            (.reg [o 15 (.mov (T 5)), o 16 (.bin .add (T 15) (I 1)), o 5 (.mov (T 16))])])))]),
    (.reg [o 4 (.mov (B true))]),
    .ret])
theorem ok55 : cfn Tryz.prog Tryz.f55 2 = some (s55, [.tmp 4]) := by kernel_rfl

/-! 56 laws.markIntS -/
def s56 : SCode :=
  (sqs [
    (.reg [o 4 (.mov (I 0))]),
    (sqs [
      (.reg [o 5 (.mov (I 0))]),
      (.block 0
        (.loop
          (sqs [
            (sqs [
              (.reg [o 6 (.mov (T 5)), o 7 (.mov (T 0)), o 8 (.len (T 7)), o 9 (.bin .lss (T 6) (T 8))]),
              (.cond (T 9)
                .skip
                (.exit 0))]),
            (.block 1
              (sqs [
                (.reg [o 12 (.mov (T 0)), o 13 (.mov (T 5)), o 14 (.mov (T 1)), o 15 (.idxAddr 1 (T 12) (T 13)), on_ (.store 1 (T 15) (T 14))]),
                (.reg [o 16 (.mov (T 1)), o 17 (.bin .add (T 16) (I 1)), o 1 (.mov (T 17))])])),
            (.reg [o 10 (.mov (T 5)), o 11 (.bin .add (T 10) (I 1)), o 5 (.mov (T 11))])])))]),
    (.reg [o 18 (.mov (T 1)), o 4 (.mov (T 18))]),
    .ret])
theorem ok56 : cfn Tryz.prog Tryz.f56 2 = some (s56, [.tmp 4]) := by kernel_rfl

/-! 57 laws.markRun -/
def s57 : SCode :=
  (sqs [
    (.reg [o 2 (.box 4 (T 0)), o 4 (.mov (I 0))]),
    (.reg [o 5 (.fieldAddr 0 (T 2)), o 6 (.load false 1 (T 5)), o 7 (.mov (T 1)), o 8 (.call 56 [(T 6), (T 7)]), o 1 (.mov (T 8))]),
    (.reg [o 9 (.fieldAddr 2 (T 2)), o 10 (.load false 1 (T 9)), o 11 (.mov (T 1)), o 12 (.call 123 [(T 10), (T 11)]), o 1 (.mov (T 12))]),
    (.reg [o 13 (.fieldAddr 3 (T 2)), o 14 (.load false 1 (T 13)), o 15 (.mov (T 1)), o 16 (.call 56 [(T 14), (T 15)]), o 1 (.mov (T 16))]),
    (.reg [o 17 (.mov (T 1)), o 4 (.mov (T 17))]),
    .ret])
theorem ok57 : cfn Tryz.prog Tryz.f57 2 = some (s57, [.tmp 4]) := by kernel_rfl

/-! 58 laws.heldRun -/
def s58 : SCode :=
  (sqs [
    (.reg [o 2 (.box 4 (T 0)), o 4 (.mov (I 0))]),
    (.reg [o 5 (.fieldAddr 0 (T 2)), o 6 (.load false 1 (T 5)), o 7 (.mov (T 1)), o 8 (.call 124 [(T 6), (T 7)]), o 1 (.mov (T 8))]),
    (sqs [
      (.reg [o 9 (.mov (T 1)), o 10 (.bin .lss (T 9) (I 0))]),
      (.cond (T 10)
        (sqs [
          (.reg [o 4 (.mov (I (-1)))]),
          .ret])
        .skip)]),
    (.reg [o 11 (.fieldAddr 2 (T 2)), o 12 (.load false 1 (T 11)), o 13 (.mov (T 1)), o 14 (.call 125 [(T 12), (T 13)]), o 1 (.mov (T 14))]),
    (sqs [
      (.reg [o 15 (.mov (T 1)), o 16 (.bin .lss (T 15) (I 0))]),
      (.cond (T 16)
        (sqs [
          (.reg [o 4 (.mov (I (-1)))]),
          .ret])
        .skip)]),
    (.reg [o 17 (.fieldAddr 3 (T 2)), o 18 (.load false 1 (T 17)), o 19 (.mov (T 1)), o 20 (.call 124 [(T 18), (T 19)]), o 1 (.mov (T 20))]),
    (sqs [
      (.reg [o 21 (.mov (T 1)), o 22 (.bin .lss (T 21) (I 0))]),
      (.cond (T 22)
        (sqs [
          (.reg [o 4 (.mov (I (-1)))]),
          .ret])
        .skip)]),
    (.reg [o 23 (.mov (T 1)), o 4 (.mov (T 23))]),
    .ret])
theorem ok58 : cfn Tryz.prog Tryz.f58 2 = some (s58, [.tmp 4]) := by kernel_rfl

/-! 62 spec.PackControl -/
def s62 : SCode :=
  (sqs [
    (.reg [o 6 (.mov (I 0))]),
    (sqs [
      (.reg [o 7 (.mov (T 0)), o 8 (.call 99 [(T 7), (I 0), (I 5)]), o 9 (.not (T 8)), o 10 (.mov (T 9)), og 11 (.mov (T 1)) 10 false, og 12 (.call 99 [(T 11), (I 0), (I 8)]) 10 false, og 13 (.not (T 12)) 10 false, o 14 (.pick (T 10) (B true) (T 13)), o 15 (.mov (T 14)), og 16 (.mov (T 2)) 15 false, og 17 (.call 99 [(T 16), (I 0), (I 24)]) 15 false, og 18 (.not (T 17)) 15 false, o 19 (.pick (T 15) (B true) (T 18))]),
      (.cond (T 19)
        (sqs [
          (.reg [o 6 (.mov (I (-1)))]),
          .ret])
        .skip)]),
    (.reg [o 20 (.mov (T 0)), o 21 (.mov (T 1)), o 22 (.mov (T 2)), o 23 (.bin .mul (I 16) (T 22)), o 24 (.bin .add (T 21) (T 23)), o 25 (.bin .mul (I 8) (T 24)), o 26 (.bin .add (T 20) (T 25)), o 6 (.mov (T 26))]),
    .ret])
theorem ok62 : cfn Tryz.prog Tryz.f62 3 = some (s62, [.tmp 6]) := by kernel_rfl

/-! 66 impl.EnergiesOf -/
def s66 : SCode :=
  (sqs [
    (.reg [o 2 (.box 4 (T 0)), o 4 (.mov N), o 5 (.mov (B false))]),
    (.reg [o 10 (.load true 4 (T 2)), o 11 (.mov (T 1)), o 12 (.call 130 [(T 10), (T 11)]), o 9 (.mov (T 12)), o 13 (.ext 0 (T 9)), o 14 (.ext 1 (T 9)), o 15 (.ext 2 (T 9)), o 6 (.mov (T 13)), o 7 (.mov (T 14)), o 8 (.mov (T 15))]),
    (.reg [o 16 (.mov (T 6)), o 17 (.mov (T 8)), o 4 (.mov (T 16)), o 5 (.mov (T 17))]),
    .ret])
theorem ok66 : cfn Tryz.prog Tryz.f66 2 = some (s66, [.tmp 4, .tmp 5]) := by kernel_rfl

/-! 67 impl.ProgramOk -/
def s67 : SCode :=
  (sqs [
    (.reg [o 1 (.box 1 (T 0)), o 2 (.mov (B false))]),
    (.reg [o 3 (.fieldAddr 0 (T 1)), o 4 (.load false 1 (T 3)), o 5 (.len (T 4)), o 6 (.call 114 [(T 5), (I 1), (I 6)]), o 7 (.mov (T 6)), og 8 (.fieldAddr 0 (T 1)) 7 true, og 9 (.load false 1 (T 8)) 7 true, og 10 (.call 69 [(T 9), (.val (.fn 131 []))]) 7 true, og 11 (.not (T 10)) 7 true, o 12 (.pick (T 7) (T 11) (B false)), o 2 (.mov (T 12))]),
    .ret])
theorem ok67 : cfn Tryz.prog Tryz.f67 1 = some (s67, [.tmp 2]) := by kernel_rfl

/-! 68 impl.StoreOk -/
def s68 : SCode :=
  (sqs [
    (.reg [o 1 (.box 4 (T 0)), o 2 (.mov (B false))]),
    (.reg [o 3 (.fieldAddr 1 (T 1)), o 4 (.load false 1 (T 3)), o 5 (.call 114 [(T 4), (I 1), (I 5000)]), o 6 (.mov (T 5)), og 7 (.fieldAddr 0 (T 1)) 6 true, og 8 (.load false 1 (T 7)) 6 true, og 9 (.fieldAddr 1 (T 1)) 6 true, og 10 (.load false 1 (T 9)) 6 true, og 11 (.call 114 [(T 8), (I 0), (T 10)]) 6 true, o 12 (.pick (T 6) (T 11) (B false)), o 13 (.mov (T 12)), og 14 (.fieldAddr 2 (T 1)) 13 true, og 15 (.load false 1 (T 14)) 13 true, og 16 (.fieldAddr 1 (T 1)) 13 true, og 17 (.load false 1 (T 16)) 13 true, og 18 (.call 114 [(T 15), (I 1), (T 17)]) 13 true, o 19 (.pick (T 13) (T 18) (B false)), o 20 (.mov (T 19)), og 21 (.fieldAddr 3 (T 1)) 20 true, og 22 (.load false 1 (T 21)) 20 true, og 23 (.call 114 [(T 22), (I 0), (I 100)]) 20 true, o 24 (.pick (T 20) (T 23) (B false)), o 2 (.mov (T 24))]),
    .ret])
theorem ok68 : cfn Tryz.prog Tryz.f68 1 = some (s68, [.tmp 2]) := by kernel_rfl

/-! 69 slices.ContainsFunc[[]impl.Task,impl.Task] -/
def s69 : SCode :=
  (sqs [
    (.reg [o 4 (.mov (B false))]),
    (.reg [o 5 (.mov (T 0)), o 6 (.mov (T 1)), o 7 (.call 118 [(T 5), (T 6)]), o 8 (.bin .geq (T 7) (I 0)), o 4 (.mov (T 8))]),
    .ret])
theorem ok69 : cfn Tryz.prog Tryz.f69 2 = some (s69, [.tmp 4]) := by kernel_rfl

/-! 70 impl.IsCertified$1 -/
def s70 : SCode :=
  (sqs [
    (.reg [o 2 (.box 4 (T 0)), o 3 (.mov (B false))]),
    (.regD [o 4 (.load true 4 (T 2)), o 6 (.fieldAddr 2 (T 1)), ⟨some 7, (.load false 1 (T 6)), none, 3, []⟩, ⟨some 5, (.call 35 [(T 4)]), none, 0, [3]⟩, o 8 (.bin .gtr (T 5) (T 7)), o 3 (.mov (T 8))]),
    .ret])
theorem ok70 : cfn Tryz.prog Tryz.f70 2 = some (s70, [.tmp 3]) := by kernel_rfl

/-! 71 impl.bit -/
def s71 : SCode :=
  (sqs [
    (.reg [o 2 (.mov (I 0))]),
    (sqs [
      (.reg [o 3 (.mov (T 0))]),
      (.cond (T 3)
        (sqs [
          (.reg [o 2 (.mov (I 1))]),
          .ret])
        .skip)]),
    (.reg [o 2 (.mov (I 0))]),
    .ret])
theorem ok71 : cfn Tryz.prog Tryz.f71 1 = some (s71, [.tmp 2]) := by kernel_rfl

/-! 75 impl.BlockOk -/
def s75 : SCode :=
  (sqs [
    (.reg [o 2 (.mov (B false))]),
    (.reg [o 3 (.mov (I 0))]),
    (sqs [
      (.reg [o 6 (.mov (T 0)), o 7 (.len (T 6)), o 8 (.mov (I 0))]),
      (.block 0
        (.loop
          (sqs [
            (.reg [o 9 (.bin .lss (T 8) (T 7))]),
            (.cond (T 9)
              .skip
              (.exit 0)),
            (.block 1
              (sqs [
                (.reg [o 10 (.idxAddr 6 (T 6) (T 8)), o 11 (.load true 6 (T 10)), o 5 (.hole 6), o 5 (.birth 6 (T 5) (T 11))]),
                (sqs [
                  (.reg [o 12 (.load true 6 (T 5)), o 13 (.call 133 [(T 12)]), o 14 (.not (T 13))]),
                  (.cond (T 14)
                    (sqs [
                      (.reg [o 2 (.mov (B false))]),
                      .ret])
                    .skip)]),
                (sqs [
                  (.reg [o 15 (.fieldAddr 0 (T 5)), o 16 (.load false 1 (T 15)), o 17 (.call 134 [(T 16)])]),
                  (.cond (T 17)
                    (.reg [o 18 (.mov (T 3)), o 19 (.bin .add (T 18) (I 1)), o 3 (.mov (T 19))])
                    .skip)]),
                (sqs [
                  (.reg [o 20 (.fieldAddr 0 (T 5)), o 21 (.load false 1 (T 20)), o 22 (.bin .eql (T 21) (I 6))]),
                  (.cond (T 22)
                    (.reg [o 23 (.mov (T 3)), o 24 (.bin .sub (T 23) (I 1)), o 3 (.mov (T 24))])
                    .skip)]),
                (.reg [o 25 (.mov (T 3)), o 26 (.bin .lss (T 25) (I 0)), o 27 (.mov (T 26)), og 28 (.mov (T 3)) 27 false, og 29 (.bin .gtr (T 28) (I 3)) 27 false, o 30 (.pick (T 27) (B true) (T 29))]),
                (.cond (T 30)
                  (sqs [
                    (.reg [o 2 (.mov (B false))]),
                    .ret])
                  .skip)])),
            (.reg [o 31 (.bin .add (T 8) (I 1)), o 8 (.mov (T 31))])])))]),
    (.reg [o 32 (.mov (T 3)), o 33 (.bin .eql (T 32) (I 0)), o 34 (.mov (T 33)), og 35 (.mov (T 0)) 34 true, og 36 (.len (T 35)) 34 true, og 37 (.bin .leq (T 36) (I 24)) 34 true, o 38 (.pick (T 34) (T 37) (B false)), o 2 (.mov (T 38))]),
    .ret])
theorem ok75 : cfn Tryz.prog Tryz.f75 1 = some (s75, [.tmp 2]) := by kernel_rfl

/-! 77 spec.BlockOk -/
def s77 : SCode :=
  (sqs [
    (.reg [o 2 (.mov (B false))]),
    (.reg [o 3 (.mov (I 0))]),
    (sqs [
      (.reg [o 4 (.mov (I 0))]),
      (.block 0
        (.loop
          (sqs [
            (sqs [
              (.reg [o 5 (.mov (T 4)), o 6 (.mov (T 0)), o 7 (.len (T 6)), o 8 (.bin .lss (T 5) (T 7))]),
              (.cond (T 8)
                .skip
                (.exit 0))]),
            (.block 1
              (sqs [
                (sqs [
                  (.reg [o 11 (.mov (T 0)), o 12 (.mov (T 4)), o 13 (.idxAddr 6 (T 11) (T 12)), o 14 (.load true 6 (T 13)), o 15 (.call 135 [(T 14)]), o 16 (.not (T 15))]),
                  (.cond (T 16)
                    (sqs [
                      (.reg [o 2 (.mov (B false))]),
                      .ret])
                    .skip)]),
                (sqs [
                  (.reg [o 17 (.mov (T 0)), o 18 (.mov (T 4)), o 19 (.idxAddr 6 (T 17) (T 18)), o 20 (.fieldAddr 0 (T 19)), o 21 (.load false 1 (T 20))]),
                  (.block 2
                    (sqs [
                      (sqs [
                        (.reg [o 23 (.bin .eql (T 21) (I 4)), o 22 (.mov (T 23))]),
                        (.cond (T 22)
                          .skip
                          (.reg [o 24 (.bin .eql (T 21) (I 5)), o 22 (.mov (T 24))]))]),
                      (.cond (T 22)
                        (.reg [o 25 (.mov (T 3)), o 26 (.bin .add (T 25) (I 1)), o 3 (.mov (T 26))])
                        (sqs [
                          (.reg [o 28 (.bin .eql (T 21) (I 6)), o 27 (.mov (T 28))]),
                          (.cond (T 27)
                            (.reg [o 29 (.mov (T 3)), o 30 (.bin .sub (T 29) (I 1)), o 3 (.mov (T 30))])
                            .skip)]))]))]),
                (.reg [o 31 (.mov (T 3)), o 32 (.call 99 [(T 31), (I 0), (I 3)]), o 33 (.not (T 32))]),
                (.cond (T 33)
                  (sqs [
                    (.reg [o 2 (.mov (B false))]),
                    .ret])
                  .skip)])),
            (.reg [o 9 (.mov (T 4)), o 10 (.bin .add (T 9) (I 1)), o 4 (.mov (T 10))])])))]),
    (.reg [o 34 (.mov (T 3)), o 35 (.bin .eql (T 34) (I 0)), o 36 (.mov (T 35)), og 37 (.mov (T 0)) 36 true, og 38 (.len (T 37)) 36 true, og 39 (.bin .leq (T 38) (I 24)) 36 true, o 40 (.pick (T 36) (T 39) (B false)), o 2 (.mov (T 40))]),
    .ret])
theorem ok77 : cfn Tryz.prog Tryz.f77 1 = some (s77, [.tmp 2]) := by kernel_rfl

/-! 79 impl.hasTask -/
def s79 : SCode :=
  (sqs [
    (.reg [o 2 (.box 1 (T 0)), o 4 (.mov (B false))]),
    (.reg [o 5 (.load true 1 (T 2)), o 6 (.call 67 [(T 5)]), o 7 (.mov (T 6)), og 8 (.mov (T 1)) 7 true, og 9 (.fieldAddr 0 (T 2)) 7 true, og 10 (.load false 1 (T 9)) 7 true, og 11 (.len (T 10)) 7 true, og 12 (.bin .sub (T 11) (I 1)) 7 true, og 13 (.call 114 [(T 8), (I 0), (T 12)]) 7 true, o 14 (.pick (T 7) (T 13) (B false)), o 4 (.mov (T 14))]),
    .ret])
theorem ok79 : cfn Tryz.prog Tryz.f79 2 = some (s79, [.tmp 4]) := by kernel_rfl

/-! 80 slices.Contains[[]int,int] -/
def s80 : SCode :=
  (sqs [
    (.reg [o 4 (.mov (B false))]),
    (.reg [o 5 (.mov (T 0)), o 6 (.mov (T 1)), o 7 (.call 138 [(T 5), (T 6)]), o 8 (.bin .geq (T 7) (I 0)), o 4 (.mov (T 8))]),
    .ret])
theorem ok80 : cfn Tryz.prog Tryz.f80 2 = some (s80, [.tmp 4]) := by kernel_rfl

/-! 84 impl.VarsOk -/
def s84 : SCode :=
  (sqs [
    (.reg [o 2 (.mov (B false))]),
    (.reg [o 3 (.mov (T 0)), o 4 (.len (T 3)), o 5 (.bin .eql (T 4) (I 8)), o 6 (.mov (T 5)), og 7 (.mov (T 0)) 6 true, og 8 (.call 85 [(T 7)]) 6 true, o 9 (.pick (T 6) (T 8) (B false)), o 2 (.mov (T 9))]),
    .ret])
theorem ok84 : cfn Tryz.prog Tryz.f84 1 = some (s84, [.tmp 2]) := by kernel_rfl

/-! 85 impl.areValues -/
def s85 : SCode :=
  (sqs [
    (.reg [o 2 (.mov (B false))]),
    (.reg [o 3 (.mov (T 0)), o 4 (.call 112 [(T 3), (.val (.fn 144 []))]), o 5 (.not (T 4)), o 2 (.mov (T 5))]),
    .ret])
theorem ok85 : cfn Tryz.prog Tryz.f85 1 = some (s85, [.tmp 2]) := by kernel_rfl

/-! 89 impl.MemOk -/
def s89 : SCode :=
  (sqs [
    (.reg [o 2 (.box 1 (T 0)), o 4 (.mov (B false))]),
    (sqs [
      (.reg [o 9 (.load true 1 (T 2)), o 10 (.call 67 [(T 9)]), o 11 (.not (T 10)), o 12 (.mov (T 11)), og 13 (.mov (T 1)) 12 false, og 14 (.len (T 13)) 12 false, og 15 (.bin .neq (T 14) (I 49)) 12 false, o 16 (.pick (T 12) (B true) (T 15)), o 17 (.mov (T 16)), og 18 (.mov (T 1)) 17 false, og 19 (.slice 1 (T 18) none (some (I 8))) 17 false, og 20 (.call 85 [(T 19)]) 17 false, og 21 (.not (T 20)) 17 false, o 22 (.pick (T 17) (B true) (T 21))]),
      (.cond (T 22)
        (sqs [
          (.reg [o 4 (.mov (B false))]),
          .ret])
        .skip)]),
    (.reg [o 24 (.mov (T 1)), o 25 (.idxAddr 1 (T 24) (I 8)), o 26 (.load false 1 (T 25)), o 27 (.call 149 [(T 26)]), o 23 (.mov (T 27)), o 28 (.ext 0 (T 23)), o 29 (.ext 1 (T 23)), o 30 (.ext 2 (T 23)), o 5 (.mov (T 28)), o 6 (.mov (T 29)), o 7 (.mov (T 30))]),
    (sqs [
      (.reg [o 31 (.mov (T 5)), o 32 (.bin .lss (T 31) (I 0)), o 33 (.mov (T 32)), og 34 (.mov (T 5)) 33 false, og 35 (.fieldAddr 0 (T 2)) 33 false, og 36 (.load false 1 (T 35)) 33 false, og 37 (.len (T 36)) 33 false, og 38 (.bin .geq (T 34) (T 37)) 33 false, o 39 (.pick (T 33) (B true) (T 38)), o 40 (.mov (T 39)), og 41 (.mov (T 1)) 40 false, og 42 (.mov (T 7)) 40 false, og 43 (.bin .add (I 25) (T 42)) 40 false, og 44 (.slice 1 (T 41) (some (I 25)) (some (T 43))) 40 false, og 45 (.call 85 [(T 44)]) 40 false, og 46 (.not (T 45)) 40 false, o 47 (.pick (T 40) (B true) (T 46))]),
      (.cond (T 47)
        (sqs [
          (.reg [o 4 (.mov (B false))]),
          .ret])
        .skip)]),
    (sqs [
      (.reg [o 48 (.mov (T 6)), o 49 (.mov (I 0))]),
      (.block 0
        (.loop
          (sqs [
            (.reg [o 50 (.bin .lss (T 49) (T 48))]),
            (.cond (T 50)
              .skip
              (.exit 0)),
            (.block 1
              (sqs [
                (.reg [o 51 (.mov (T 49)), o 8 (.mov (T 51))]),
                (.reg [o 52 (.mov (T 1)), o 53 (.mov (T 8)), o 54 (.bin .mul (I 2) (T 53)), o 55 (.bin .add (I 9) (T 54)), o 56 (.idxAddr 1 (T 52) (T 55)), o 57 (.load false 1 (T 56)), o 58 (.call 150 [(T 57)]), o 59 (.not (T 58)), o 60 (.mov (T 59)), og 61 (.mov (T 1)) 60 false, og 62 (.mov (T 8)) 60 false, og 63 (.bin .mul (I 2) (T 62)) 60 false, og 64 (.bin .add (I 9) (T 63)) 60 false, og 65 (.bin .add (T 64) (I 1)) 60 false, og 66 (.idxAddr 1 (T 61) (T 65)) 60 false, og 67 (.load false 1 (T 66)) 60 false, og 68 (.call 145 [(T 67)]) 60 false, og 69 (.not (T 68)) 60 false, o 70 (.pick (T 60) (B true) (T 69))]),
                (.cond (T 70)
                  (sqs [
                    (.reg [o 4 (.mov (B false))]),
                    .ret])
                  .skip)])),
            (.reg [o 71 (.bin .add (T 49) (I 1)), o 49 (.mov (T 71))])])))]),
    (.reg [o 4 (.mov (B true))]),
    .ret])
theorem ok89 : cfn Tryz.prog Tryz.f89 2 = some (s89, [.tmp 4]) := by kernel_rfl

/-! 92 impl.traceOf -/
def s92 : SCode :=
  (sqs [
    (.reg [o 4 (.box 1 (T 0)), o 6 (.box 1 (T 2)), o 7 (.box 1 (T 3)), o 8 (.zero [.nils, .nils])]),
    (.reg [o 16 (.mov (T 1)), o 17 (.idxAddr 1 (T 16) (I 8)), o 18 (.load false 1 (T 17)), o 19 (.call 149 [(T 18)]), o 15 (.mov (T 19)), o 20 (.ext 0 (T 15)), o 21 (.ext 1 (T 15)), o 22 (.ext 2 (T 15)), o 9 (.mov (T 20)), o 10 (.mov (T 21)), o 11 (.mov (T 22))]),
    (.reg [o 23 (.mov (T 9)), o 24 (.mov (T 11)), o 25 (.mov (T 1)), o 26 (.call 151 [(T 25)]), o 27 (.build [.nils, .nils, (.int .i64 0), (.int .i64 0), (.int .i64 0), .nils, (.bool false), (.bool false), (.bool false), (.bool false), (.bool false), (.bool false), (.bool false), (.bool false), .nils] [(2, 1, (T 23)), (3, 1, (T 24)), (14, 1, (T 26))]), o 28 (.box 15 (T 27)), o 12 (.hole 1), o 12 (.birth 1 (T 12) (T 28))]),
    (.reg [o 29 (.fieldAddr 0 (T 4)), o 30 (.load false 1 (T 29)), o 31 (.mov (T 9)), o 32 (.idxAddr 4 (T 30) (T 31)), o 33 (.load true 4 (T 32)), o 13 (.hole 4), o 13 (.birth 4 (T 13) (T 33))]),
    (.reg [o 34 (.load true 4 (T 13)), o 35 (.call 95 [(T 34)]), o 14 (.hole 1), o 14 (.birth 1 (T 14) (T 35))]),
    (.reg [o 36 (.fieldAddr 0 (T 13)), o 37 (.load false 1 (T 36)), o 38 (.mkfn 152 [(T 12), (T 14), (T 6), (T 7)]), o 39 (.call 146 [(T 37), (T 38)])]),
    (.reg [o 40 (.load false 1 (T 12)), o 41 (.call 153 [(T 40), (I 1)])]),
    (.regD [o 42 (.load false 1 (T 12)), ⟨some 43, (.load true 1 (T 4)), none, 1, []⟩, ⟨some 44, (.load false 1 (T 12)), none, 2, []⟩, o 45 (.nilchk (T 44)), o 46 (.fieldAddr 14 (T 45)), ⟨some 47, (.load false 1 (T 46)), none, 5, []⟩, o 48 (.mov (T 9)), o 50 (.mov (T 11)), ⟨some 51, (.load false 1 (T 12)), none, 9, []⟩, o 52 (.nilchk (T 51)), o 53 (.fieldAddr 4 (T 52)), ⟨some 54, (.load false 1 (T 53)), none, 12, []⟩, o 55 (.bin .add (T 50) (T 54)), o 56 (.min (I 24) (T 55)), ⟨some 49, (.call 148 [(T 43), (T 47), (T 48)]), none, 0, [0, 9, 12]⟩, ⟨some 57, (.call 159 [(T 49), (I 0), (T 56)]), none, 0, [0]⟩, o 58 (.call 158 [(T 42), (I 8), (T 57)])]),
    (.reg [o 59 (.load false 1 (T 12)), o 60 (.nilchk (T 59)), o 61 (.fieldAddr 0 (T 60)), o 62 (.load true 2 (T 61)), on_ (.store 2 (T 8) (T 62))]),
    .ret])
theorem ok92 : cfn Tryz.prog Tryz.f92 4 = some (s92, [.cell 8 true 2]) := by kernel_rfl

/-! 93 impl.taskOk -/
def s93 : SCode :=
  (sqs [
    (.reg [o 1 (.box 4 (T 0)), o 2 (.mov (B false))]),
    (.reg [o 3 (.fieldAddr 0 (T 1)), o 4 (.load false 1 (T 3)), o 5 (.call 75 [(T 4)]), o 6 (.mov (T 5)), og 7 (.fieldAddr 1 (T 1)) 6 true, og 8 (.load true 3 (T 7)) 6 true, og 9 (.call 160 [(T 8)]) 6 true, o 10 (.pick (T 6) (T 9) (B false)), o 2 (.mov (T 10))]),
    .ret])
theorem ok93 : cfn Tryz.prog Tryz.f93 1 = some (s93, [.tmp 2]) := by kernel_rfl

/-! 94 impl.bound -/
def s94 : SCode :=
  (sqs [
    (.reg [o 2 (.mov (I 0))]),
    (.reg [o 3 (.mov (I 0))]),
    (sqs [
      (.reg [o 4 (.mov (I 0))]),
      (.block 0
        (.loop
          (sqs [
            (sqs [
              (.reg [o 8 (.mov (T 4)), o 9 (.mov (T 0)), o 10 (.len (T 9)), o 11 (.bin .lss (T 8) (T 10))]),
              (.cond (T 11)
                .skip
                (.exit 0))]),
            (.block 1
              (sqs [
                (.reg [o 14 (.mov (T 0)), o 15 (.mov (T 4)), o 16 (.idxAddr 6 (T 14) (T 15)), o 17 (.load true 6 (T 16)), o 5 (.hole 6), o 5 (.birth 6 (T 5) (T 17))]),
                (.reg [o 18 (.mov (T 3)), o 19 (.load true 6 (T 5)), o 20 (.call 154 [(T 19)]), o 21 (.bin .add (T 18) (T 20)), o 3 (.mov (T 21))]),
                (sqs [
                  (.reg [o 22 (.fieldAddr 0 (T 5)), o 23 (.load false 1 (T 22)), o 24 (.call 134 [(T 23)]), o 25 (.not (T 24))]),
                  (.cond (T 25)
                    (sqs [
                      (.reg [o 26 (.mov (T 3)), o 27 (.bin .add (T 26) (I 3)), o 3 (.mov (T 27))]),
                      (.exit 1)])
                    .skip)]),
                (.reg [o 28 (.mov (T 0)), o 29 (.mov (T 4)), o 30 (.call 161 [(T 28), (T 29)]), o 6 (.mov (T 30))]),
                (.reg [o 7 (.mov (I 1))]),
                (sqs [
                  (.reg [o 31 (.fieldAddr 0 (T 5)), o 32 (.load false 1 (T 31)), o 33 (.bin .eql (T 32) (I 5))]),
                  (.cond (T 33)
                    (.reg [o 34 (.fieldAddr 2 (T 5)), o 35 (.load false 1 (T 34)), o 7 (.mov (T 35))])
                    .skip)]),
                (.reg [o 36 (.mov (T 3)), o 37 (.mov (T 7)), o 38 (.mov (T 0)), o 39 (.mov (T 4)), o 40 (.bin .add (T 39) (I 1)), o 41 (.mov (T 6)), o 42 (.slice 6 (T 38) (some (T 40)) (some (T 41))), o 43 (.call 94 [(T 42)]), o 44 (.bin .mul (T 37) (T 43)), o 45 (.bin .add (T 36) (T 44)), o 3 (.mov (T 45))]),
                (.reg [o 46 (.mov (T 6)), o 4 (.mov (T 46))])])),
            (.reg [o 12 (.mov (T 4)), o 13 (.bin .add (T 12) (I 1)), o 4 (.mov (T 13))])])))]),
    (.reg [o 47 (.mov (T 3)), o 2 (.mov (T 47))]),
    .ret])
theorem ok94 : cfn Tryz.prog Tryz.f94 1 = some (s94, [.tmp 2]) := by kernel_rfl

/-! 95 impl.MustLog -/
def s95 : SCode :=
  (sqs [
    (.reg [o 1 (.box 4 (T 0)), o 2 (.mov N)]),
    (sqs [
      (.reg [o 5 (.load true 4 (T 1)), o 6 (.call 93 [(T 5)]), o 7 (.not (T 6))]),
      (.cond (T 7)
        (sqs [
          (.reg [o 2 (.mov N)]),
          .ret])
        .skip)]),
    (.regD [o 8 (.load true 4 (T 1)), o 10 (.fieldAddr 0 (T 1)), ⟨some 11, (.load false 1 (T 10)), none, 3, []⟩, o 3 (.hole 1), o 4 (.hole 1), ⟨some 9, (.call 162 [(T 8)]), none, 0, [3]⟩, o 12 (.call 163 [(T 11)]), o 3 (.birth 1 (T 3) (T 9)), o 4 (.birth 1 (T 4) (T 12))]),
    (.reg [o 13 (.fieldAddr 0 (T 1)), o 14 (.load false 1 (T 13)), o 15 (.call 165 [(T 14)]), o 16 (.mkfn 166 [(T 3), (T 4)]), o 17 (.call 164 [(T 15), (T 16)]), o 2 (.mov (T 17))]),
    .ret])
theorem ok95 : cfn Tryz.prog Tryz.f95 1 = some (s95, [.tmp 2]) := by kernel_rfl

/-! 96 impl.RecoveryCost -/
def s96 : SCode :=
  (sqs [
    (.reg [o 2 (.mov (I 0))]),
    (.block 0
      (sqs [
        (.reg [o 4 (.mov (T 0)), o 5 (.call 114 [(T 4), (I 0), (I 8)]), o 6 (.not (T 5)), o 3 (.mov (T 6))]),
        (.cond (T 3)
          (sqs [
            (.reg [o 2 (.mov (I (-1)))]),
            .ret])
          (sqs [
            (.reg [o 8 (.mov (T 0)), o 9 (.bin .eql (T 8) (I 0)), o 7 (.mov (T 9))]),
            (.cond (T 7)
              (sqs [
                (.reg [o 2 (.mov (I 0))]),
                .ret])
              .skip)]))])),
    (.reg [o 10 (.mov (T 0)), o 11 (.bin .add (T 10) (I 1)), o 12 (.bin .mul (I 3) (T 11)), o 2 (.mov (T 12))]),
    .ret])
theorem ok96 : cfn Tryz.prog Tryz.f96 1 = some (s96, [.tmp 2]) := by kernel_rfl

/-! 97 laws.szTaskS -/
def s97 : SCode :=
  (sqs [
    (.reg [o 4 (.mov (I 0))]),
    (.reg [o 6 (.mov (T 1)), o 7 (.mov (T 0)), o 8 (.len (T 7)), o 9 (.bin .sub (T 6) (T 8)), o 1 (.mov (T 9))]),
    (sqs [
      (.reg [o 10 (.mov (T 1)), o 11 (.bin .lss (T 10) (I 0))]),
      (.cond (T 11)
        (sqs [
          (.reg [o 4 (.mov (I (-1)))]),
          .ret])
        .skip)]),
    (sqs [
      (.reg [o 5 (.mov (I 0))]),
      (.block 0
        (.loop
          (sqs [
            (sqs [
              (.reg [o 12 (.mov (T 5)), o 13 (.mov (T 0)), o 14 (.len (T 13)), o 15 (.bin .lss (T 12) (T 14))]),
              (.cond (T 15)
                .skip
                (.exit 0))]),
            (.block 1
              (sqs [
                (.reg [o 18 (.mov (T 0)), o 19 (.mov (T 5)), o 20 (.idxAddr 4 (T 18) (T 19)), o 21 (.load true 4 (T 20)), o 22 (.mov (T 1)), o 23 (.call 168 [(T 21), (T 22)]), o 1 (.mov (T 23))]),
                (.reg [o 24 (.mov (T 1)), o 25 (.bin .lss (T 24) (I 0))]),
                (.cond (T 25)
                  (sqs [
                    (.reg [o 4 (.mov (I (-1)))]),
                    .ret])
                  .skip)])),
            (.reg [o 16 (.mov (T 5)), o 17 (.bin .add (T 16) (I 1)), o 5 (.mov (T 17))])])))]),
    (.reg [o 26 (.mov (T 1)), o 4 (.mov (T 26))]),
    .ret])
theorem ok97 : cfn Tryz.prog Tryz.f97 2 = some (s97, [.tmp 4]) := by kernel_rfl

/-! 99 spec.l01In -/
def s99 : SCode :=
  (sqs [
    (.reg [o 6 (.mov (B false))]),
    (.reg [o 7 (.mov (T 0)), o 8 (.mov (T 1)), o 9 (.bin .geq (T 7) (T 8)), o 10 (.mov (T 9)), og 11 (.mov (T 0)) 10 true, og 12 (.mov (T 2)) 10 true, og 13 (.bin .leq (T 11) (T 12)) 10 true, o 14 (.pick (T 10) (T 13) (B false)), o 6 (.mov (T 14))]),
    .ret])
theorem ok99 : cfn Tryz.prog Tryz.f99 3 = some (s99, [.tmp 6]) := by kernel_rfl

/-! 100 spec.HasVar -/
def s100 : SCode :=
  (sqs [
    (.reg [o 4 (.mov (B false))]),
    (sqs [
      (.reg [o 5 (.mov (I 0))]),
      (.block 0
        (.loop
          (sqs [
            (sqs [
              (.reg [o 6 (.mov (T 5)), o 7 (.mov (T 0)), o 8 (.len (T 7)), o 9 (.bin .lss (T 6) (T 8))]),
              (.cond (T 9)
                .skip
                (.exit 0))]),
            (.block 1
              (sqs [
                (.reg [o 12 (.mov (T 0)), o 13 (.mov (T 5)), o 14 (.idxAddr 1 (T 12) (T 13)), o 15 (.load false 1 (T 14)), o 16 (.mov (T 1)), o 17 (.bin .eql (T 15) (T 16))]),
                (.cond (T 17)
                  (sqs [
                    (.reg [o 4 (.mov (B true))]),
                    .ret])
                  .skip)])),
            (.reg [o 10 (.mov (T 5)), o 11 (.bin .add (T 10) (I 1)), o 5 (.mov (T 11))])])))]),
    (.reg [o 4 (.mov (B false))]),
    .ret])
theorem ok100 : cfn Tryz.prog Tryz.f100 2 = some (s100, [.tmp 4]) := by kernel_rfl

/-! 103 laws.toTaskS -/
def s103 : SCode :=
  (sqs [
    (.reg [o 2 (.mov N)]),
    (.reg [o 5 (.mov (T 0)), o 6 (.len (T 5)), o 7 (.make 4 48 [.nils, (.int .i64 0), (.int .i64 0), (.int .i64 0)] (T 6)), o 3 (.mov (T 7))]),
    (sqs [
      (.reg [o 4 (.mov (I 0))]),
      (.block 0
        (.loop
          (sqs [
            (sqs [
              (.reg [o 8 (.mov (T 4)), o 9 (.mov (T 0)), o 10 (.len (T 9)), o 11 (.bin .lss (T 8) (T 10))]),
              (.cond (T 11)
                .skip
                (.exit 0))]),
            (.block 1
              (.reg [o 14 (.mov (T 3)), o 15 (.mov (T 4)), o 16 (.mov (T 0)), o 17 (.mov (T 4)), o 18 (.idxAddr 4 (T 16) (T 17)), o 19 (.load true 4 (T 18)), o 20 (.call 170 [(T 19)]), o 21 (.idxAddr 4 (T 14) (T 15)), on_ (.store 4 (T 21) (T 20))])),
            (.reg [o 12 (.mov (T 4)), o 13 (.bin .add (T 12) (I 1)), o 4 (.mov (T 13))])])))]),
    (.reg [o 22 (.mov (T 3)), o 2 (.mov (T 22))]),
    .ret])
theorem ok103 : cfn Tryz.prog Tryz.f103 1 = some (s103, [.tmp 2]) := by kernel_rfl

/-! 104 laws.eqTaskS -/
def s104 : SCode :=
  (sqs [
    (.reg [o 4 (.mov (B false))]),
    (sqs [
      (.reg [o 6 (.mov (T 0)), o 7 (.len (T 6)), o 8 (.mov (T 1)), o 9 (.len (T 8)), o 10 (.bin .neq (T 7) (T 9))]),
      (.cond (T 10)
        (sqs [
          (.reg [o 4 (.mov (B false))]),
          .ret])
        .skip)]),
    (sqs [
      (.reg [o 5 (.mov (I 0))]),
      (.block 0
        (.loop
          (sqs [
            (sqs [
              (.reg [o 11 (.mov (T 5)), o 12 (.mov (T 0)), o 13 (.len (T 12)), o 14 (.bin .lss (T 11) (T 13))]),
              (.cond (T 14)
                .skip
                (.exit 0))]),
            (.block 1
              (sqs [
                (.regD [o 17 (.mov (T 0)), o 18 (.mov (T 5)), o 19 (.idxAddr 4 (T 17) (T 18)), ⟨some 20, (.load true 4 (T 19)), none, 3, []⟩, o 21 (.mov (T 1)), o 22 (.mov (T 5)), o 23 (.idxAddr 4 (T 21) (T 22)), ⟨some 24, (.load true 4 (T 23)), none, 7, []⟩, o 25 (.call 171 [(T 20), (T 24)]), o 26 (.not (T 25))]),
                (.cond (T 26)
                  (sqs [
                    (.reg [o 4 (.mov (B false))]),
                    .ret])
                  .skip)])),
            (.reg [o 15 (.mov (T 5)), o 16 (.bin .add (T 15) (I 1)), o 5 (.mov (T 16))])])))]),
    (.reg [o 4 (.mov (B true))]),
    .ret])
theorem ok104 : cfn Tryz.prog Tryz.f104 2 = some (s104, [.tmp 4]) := by kernel_rfl

/-! 105 laws.markTaskS -/
def s105 : SCode :=
  (sqs [
    (.reg [o 4 (.mov (I 0))]),
    (sqs [
      (.reg [o 5 (.mov (I 0))]),
      (.block 0
        (.loop
          (sqs [
            (sqs [
              (.reg [o 6 (.mov (T 5)), o 7 (.mov (T 0)), o 8 (.len (T 7)), o 9 (.bin .lss (T 6) (T 8))]),
              (.cond (T 9)
                .skip
                (.exit 0))]),
            (.block 1
              (sqs [
                (.reg [o 12 (.mov (T 0)), o 13 (.mov (T 5)), o 14 (.idxAddr 4 (T 12) (T 13)), o 15 (.fieldAddr 0 (T 14)), o 16 (.load false 1 (T 15)), o 17 (.mov (T 1)), o 18 (.call 172 [(T 16), (T 17)]), o 1 (.mov (T 18))]),
                (.reg [o 19 (.mov (T 0)), o 20 (.mov (T 5)), o 21 (.mov (T 1)), o 22 (.idxAddr 4 (T 19) (T 20)), o 23 (.fieldAddr 1 (T 22)), o 24 (.fieldAddr 0 (T 23)), on_ (.store 1 (T 24) (T 21))]),
                (.reg [o 25 (.mov (T 1)), o 26 (.bin .add (T 25) (I 1)), o 1 (.mov (T 26))]),
                (.reg [o 27 (.mov (T 0)), o 28 (.mov (T 5)), o 29 (.mov (T 1)), o 30 (.idxAddr 4 (T 27) (T 28)), o 31 (.fieldAddr 1 (T 30)), o 32 (.fieldAddr 1 (T 31)), on_ (.store 1 (T 32) (T 29))]),
                (.reg [o 33 (.mov (T 1)), o 34 (.bin .add (T 33) (I 1)), o 1 (.mov (T 34))]),
                (.reg [o 35 (.mov (T 0)), o 36 (.mov (T 5)), o 37 (.mov (T 1)), o 38 (.idxAddr 4 (T 35) (T 36)), o 39 (.fieldAddr 1 (T 38)), o 40 (.fieldAddr 2 (T 39)), on_ (.store 1 (T 40) (T 37))]),
                (.reg [o 41 (.mov (T 1)), o 42 (.bin .add (T 41) (I 1)), o 1 (.mov (T 42))])])),
            (.reg [o 10 (.mov (T 5)), o 11 (.bin .add (T 10) (I 1)), o 5 (.mov (T 11))])])))]),
    (.reg [o 43 (.mov (T 1)), o 4 (.mov (T 43))]),
    .ret])
theorem ok105 : cfn Tryz.prog Tryz.f105 2 = some (s105, [.tmp 4]) := by kernel_rfl

/-! 107 spec.ProgramOk -/
def s107 : SCode :=
  (sqs [
    (.reg [o 1 (.box 1 (T 0)), o 2 (.mov (B false))]),
    (sqs [
      (.reg [o 3 (.mov (I 0))]),
      (.block 0
        (.loop
          (sqs [
            (sqs [
              (.reg [o 4 (.mov (T 3)), o 5 (.fieldAddr 0 (T 1)), o 6 (.load false 1 (T 5)), o 7 (.len (T 6)), o 8 (.bin .lss (T 4) (T 7))]),
              (.cond (T 8)
                .skip
                (.exit 0))]),
            (.block 1
              (sqs [
                (.reg [o 11 (.fieldAddr 0 (T 1)), o 12 (.load false 1 (T 11)), o 13 (.mov (T 3)), o 14 (.idxAddr 4 (T 12) (T 13)), o 15 (.fieldAddr 0 (T 14)), o 16 (.load false 1 (T 15)), o 17 (.call 77 [(T 16)]), o 18 (.not (T 17)), o 19 (.mov (T 18)), og 20 (.fieldAddr 0 (T 1)) 19 false, og 21 (.load false 1 (T 20)) 19 false, og 22 (.mov (T 3)) 19 false, og 23 (.idxAddr 4 (T 21) (T 22)) 19 false, og 24 (.fieldAddr 1 (T 23)) 19 false, og 25 (.load true 3 (T 24)) 19 false, og 26 (.call 174 [(T 25)]) 19 false, og 27 (.not (T 26)) 19 false, o 28 (.pick (T 19) (B true) (T 27))]),
                (.cond (T 28)
                  (sqs [
                    (.reg [o 2 (.mov (B false))]),
                    .ret])
                  .skip)])),
            (.reg [o 9 (.mov (T 3)), o 10 (.bin .add (T 9) (I 1)), o 3 (.mov (T 10))])])))]),
    (.reg [o 29 (.fieldAddr 0 (T 1)), o 30 (.load false 1 (T 29)), o 31 (.len (T 30)), o 32 (.call 99 [(T 31), (I 1), (I 6)]), o 2 (.mov (T 32))]),
    .ret])
theorem ok107 : cfn Tryz.prog Tryz.f107 1 = some (s107, [.tmp 2]) := by kernel_rfl

/-! 108 spec.StoreOk -/
def s108 : SCode :=
  (sqs [
    (.reg [o 1 (.box 4 (T 0)), o 2 (.mov (B false))]),
    (.reg [o 3 (.fieldAddr 1 (T 1)), o 4 (.load false 1 (T 3)), o 5 (.call 99 [(T 4), (I 1), (I 5000)]), o 6 (.mov (T 5)), og 7 (.fieldAddr 0 (T 1)) 6 true, og 8 (.load false 1 (T 7)) 6 true, og 9 (.fieldAddr 1 (T 1)) 6 true, og 10 (.load false 1 (T 9)) 6 true, og 11 (.call 99 [(T 8), (I 0), (T 10)]) 6 true, o 12 (.pick (T 6) (T 11) (B false)), o 13 (.mov (T 12)), og 14 (.fieldAddr 2 (T 1)) 13 true, og 15 (.load false 1 (T 14)) 13 true, og 16 (.fieldAddr 1 (T 1)) 13 true, og 17 (.load false 1 (T 16)) 13 true, og 18 (.call 99 [(T 15), (I 1), (T 17)]) 13 true, o 19 (.pick (T 13) (T 18) (B false)), o 20 (.mov (T 19)), og 21 (.fieldAddr 3 (T 1)) 20 true, og 22 (.load false 1 (T 21)) 20 true, og 23 (.call 99 [(T 22), (I 0), (I 100)]) 20 true, o 24 (.pick (T 20) (T 23) (B false)), o 2 (.mov (T 24))]),
    .ret])
theorem ok108 : cfn Tryz.prog Tryz.f108 1 = some (s108, [.tmp 2]) := by kernel_rfl

/-! 109 spec.BootBound -/
def s109 : SCode :=
  (sqs [
    (.reg [o 1 (.box 4 (T 0)), o 2 (.mov (I 0))]),
    (sqs [
      (.reg [o 3 (.load true 4 (T 1)), o 4 (.call 175 [(T 3)]), o 5 (.not (T 4))]),
      (.cond (T 5)
        (sqs [
          (.reg [o 2 (.mov (I (-1)))]),
          .ret])
        .skip)]),
    (.regD [o 6 (.load true 4 (T 1)), ⟨some 8, (.load true 4 (T 1)), none, 2, []⟩, ⟨some 7, (.call 176 [(T 6)]), none, 0, [2]⟩, o 9 (.call 178 [(T 8)]), o 10 (.len (T 9)), o 11 (.call 177 [(T 10)]), o 12 (.bin .add (T 7) (T 11)), o 2 (.mov (T 12))]),
    .ret])
theorem ok109 : cfn Tryz.prog Tryz.f109 1 = some (s109, [.tmp 2]) := by kernel_rfl

/-! 111 impl.isBootAt -/
def s111 : SCode :=
  (sqs [
    (.reg [o 4 (.box 1 (T 0)), o 8 (.mov (B false))]),
    (.reg [o 9 (.load true 1 (T 4)), o 10 (.mov (T 1)), o 11 (.call 89 [(T 9), (T 10)]), o 12 (.mov (T 11)), og 13 (.mov (T 2)) 12 true, og 14 (.call 85 [(T 13)]) 12 true, o 15 (.pick (T 12) (T 14) (B false)), o 16 (.mov (T 15)), og 17 (.mov (T 3)) 16 true, og 18 (.call 114 [(T 17), (I 0), (I 500000)]) 16 true, o 19 (.pick (T 16) (T 18) (B false)), o 8 (.mov (T 19))]),
    .ret])
theorem ok111 : cfn Tryz.prog Tryz.f111 4 = some (s111, [.tmp 8]) := by kernel_rfl

/-! 112 slices.ContainsFunc[[]int,int] -/
def s112 : SCode :=
  (sqs [
    (.reg [o 4 (.mov (B false))]),
    (.reg [o 5 (.mov (T 0)), o 6 (.mov (T 1)), o 7 (.call 179 [(T 5), (T 6)]), o 8 (.bin .geq (T 7) (I 0)), o 4 (.mov (T 8))]),
    .ret])
theorem ok112 : cfn Tryz.prog Tryz.f112 2 = some (s112, [.tmp 4]) := by kernel_rfl

/-! 113 impl.RunBoots$1 -/
def s113 : SCode :=
  (sqs [
    (.reg [o 2 (.mov (B false))]),
    (.reg [o 3 (.mov (T 0)), o 4 (.call 114 [(T 3), (I 0), (I 5000)]), o 5 (.not (T 4)), o 2 (.mov (T 5))]),
    .ret])
theorem ok113 : cfn Tryz.prog Tryz.f113 1 = some (s113, [.tmp 2]) := by kernel_rfl

/-! 114 impl.within -/
def s114 : SCode :=
  (sqs [
    (.reg [o 6 (.mov (B false))]),
    (.reg [o 7 (.mov (T 0)), o 8 (.mov (T 1)), o 9 (.bin .geq (T 7) (T 8)), o 10 (.mov (T 9)), og 11 (.mov (T 0)) 10 true, og 12 (.mov (T 2)) 10 true, og 13 (.bin .leq (T 11) (T 12)) 10 true, o 14 (.pick (T 10) (T 13) (B false)), o 6 (.mov (T 14))]),
    .ret])
theorem ok114 : cfn Tryz.prog Tryz.f114 3 = some (s114, [.tmp 6]) := by kernel_rfl

/-! 115 slices.Clone[[]int,int] -/
def s115 : SCode :=
  (sqs [
    (.reg [o 2 (.mov N)]),
    (sqs [
      (.reg [o 3 (.mov (T 0)), o 4 (.isnil 27 false (T 3))]),
      (.cond (T 4)
        (sqs [
          (.reg [o 2 (.mov N)]),
          .ret])
        .skip)]),
    (.reg [o 5 (.lit 0 1 [(.int .i64 0)] []), o 6 (.mov (T 0)), o 7 (.append 1 8 (T 5) (T 6)), o 2 (.mov (T 7))]),
    .ret])
theorem ok115 : cfn Tryz.prog Tryz.f115 1 = some (s115, [.tmp 2]) := by kernel_rfl

/-! 116 impl.boot -/
def s116 : SCode :=
  (sqs [
    (.reg [o 5 (.box 1 (T 0)), o 10 (.zero [.nils, (.int .i64 0), .nils, (.int .i64 0)])]),
    (.reg [o 12 (.mov (T 1)), o 13 (.call 115 [(T 12)]), o 14 (.mov (T 3)), o 15 (.mov (T 4)), o 16 (.build [.nils, (.int .i64 0), .nils, (.int .i64 0)] [(0, 1, (T 13)), (1, 1, (T 14)), (3, 1, (T 15))]), o 11 (.hole 4), o 11 (.birth 4 (T 11) (T 16))]),
    (sqs [
      (.reg [o 17 (.call 180 [(T 11)]), o 18 (.not (T 17))]),
      (.cond (T 18)
        (sqs [
          (.reg [o 19 (.load true 4 (T 11)), on_ (.store 4 (T 10) (T 19))]),
          .ret])
        .skip)]),
    (.block 0
      (.loop
        (sqs [
          (sqs [
            (.reg [o 20 (.fieldAddr 2 (T 11)), o 21 (.load false 1 (T 20)), o 22 (.len (T 21)), o 23 (.bin .lss (T 22) (I 10)), o 24 (.mov (T 23)), og 25 (.load true 1 (T 5)) 24 true, og 26 (.mov (T 2)) 24 true, og 27 (.call 181 [(T 11), (T 25), (T 26)]) 24 true, o 28 (.pick (T 24) (T 27) (B false))]),
            (.cond (T 28)
              .skip
              (.exit 0))]),
          (.block 1
            .skip)]))),
    (.reg [o 29 (.load true 4 (T 11)), on_ (.store 4 (T 10) (T 29))]),
    .ret])
theorem ok116 : cfn Tryz.prog Tryz.f116 5 = some (s116, [.cell 10 true 4]) := by kernel_rfl

/-! 118 slices.IndexFunc[[]impl.Task,impl.Task] -/
def s118 : SCode :=
  (sqs [
    (.reg [o 4 (.mov (I 0))]),
    (sqs [
      (.reg [o 6 (.mov (T 0)), o 7 (.len (T 6)), o 8 (.mov (I 0))]),
      (.block 0
        (.loop
          (sqs [
            (.reg [o 9 (.bin .lss (T 8) (T 7))]),
            (.cond (T 9)
              .skip
              (.exit 0)),
            (.block 1
              (sqs [
                (.reg [o 10 (.mov (T 8)), o 5 (.mov (T 10))]),
                (.reg [o 11 (.mov (T 1)), o 12 (.mov (T 0)), o 13 (.mov (T 5)), o 14 (.idxAddr 4 (T 12) (T 13)), o 15 (.load true 4 (T 14)), o 16 (.callv (T 11) [(T 15)])]),
                (.cond (T 16)
                  (sqs [
                    (.reg [o 17 (.mov (T 5)), o 4 (.mov (T 17))]),
                    .ret])
                  .skip)])),
            (.reg [o 18 (.bin .add (T 8) (I 1)), o 8 (.mov (T 18))])])))]),
    (.reg [o 4 (.mov (I (-1)))]),
    .ret])
theorem ok118 : cfn Tryz.prog Tryz.f118 2 = some (s118, [.tmp 4]) := by kernel_rfl

/-! 120 spec.l23Energies -/
def s120 : SCode :=
  (sqs [
    (.reg [o 2 (.box 4 (T 0)), o 4 (.mov N), o 5 (.mov (B false))]),
    (.reg [o 9 (.load true 4 (T 2)), o 10 (.mov (T 1)), o 11 (.call 182 [(T 9), (T 10)]), o 8 (.mov (T 11)), o 12 (.ext 0 (T 8)), o 13 (.ext 1 (T 8)), o 6 (.mov (T 12)), o 7 (.mov (T 13))]),
    (sqs [
      (.reg [o 14 (.mov (T 6)), o 15 (.len (T 14)), o 16 (.bin .gtr (T 15) (I 60))]),
      (.cond (T 16)
        (.reg [o 17 (.lit 0 1 [(.int .i64 0)] []), o 18 (.mov (T 6)), o 19 (.slice 1 (T 18) none (some (I 60))), o 20 (.append 1 8 (T 17) (T 19)), o 6 (.mov (T 20))])
        .skip)]),
    (.reg [o 21 (.mov (T 6)), o 22 (.mov (T 7)), o 4 (.mov (T 21)), o 5 (.mov (T 22))]),
    .ret])
theorem ok120 : cfn Tryz.prog Tryz.f120 2 = some (s120, [.tmp 4, .tmp 5]) := by kernel_rfl

/-! 121 spec.RunBoots -/
def s121 : SCode :=
  (sqs [
    (.reg [o 4 (.box 1 (T 0)), o 8 (.zero [.nils, (.int .i64 0), .nils, .nils]), o 9 (.mov (B false))]),
    (sqs [
      (.reg [o 10 (.load true 1 (T 4)), o 11 (.mov (T 1)), o 12 (.mov (T 2)), o 13 (.mov (T 3)), o 14 (.call 183 [(T 10), (T 11), (T 12), (T 13)]), o 15 (.not (T 14))]),
      (.cond (T 15)
        (sqs [
          (.reg [o 16 (.build [.nils, (.int .i64 0), .nils, .nils] []), on_ (.store 4 (T 8) (T 16)), o 9 (.mov (B false))]),
          .ret])
        .skip)]),
    (.reg [o 17 (.load true 1 (T 4)), o 18 (.mov (T 1)), o 19 (.mov (T 2)), o 20 (.mov (T 3)), o 21 (.call 184 [(T 17), (T 18), (T 19), (T 20)]), on_ (.store 4 (T 8) (T 21)), o 9 (.mov (B true))]),
    .ret])
theorem ok121 : cfn Tryz.prog Tryz.f121 4 = some (s121, [.cell 8 true 4, .tmp 9]) := by kernel_rfl

/-! 122 laws.eqIntSS -/
def s122 : SCode :=
  (sqs [
    (.reg [o 4 (.mov (B false))]),
    (sqs [
      (.reg [o 6 (.mov (T 0)), o 7 (.len (T 6)), o 8 (.mov (T 1)), o 9 (.len (T 8)), o 10 (.bin .neq (T 7) (T 9))]),
      (.cond (T 10)
        (sqs [
          (.reg [o 4 (.mov (B false))]),
          .ret])
        .skip)]),
    (sqs [
      (.reg [o 5 (.mov (I 0))]),
      (.block 0
        (.loop
          (sqs [
            (sqs [
              (.reg [o 11 (.mov (T 5)), o 12 (.mov (T 0)), o 13 (.len (T 12)), o 14 (.bin .lss (T 11) (T 13))]),
              (.cond (T 14)
                .skip
                (.exit 0))]),
            (.block 1
              (sqs [
                (.regD [o 17 (.mov (T 0)), o 18 (.mov (T 5)), o 19 (.idxAddr 1 (T 17) (T 18)), ⟨some 20, (.load false 1 (T 19)), none, 3, []⟩, o 21 (.mov (T 1)), o 22 (.mov (T 5)), o 23 (.idxAddr 1 (T 21) (T 22)), ⟨some 24, (.load false 1 (T 23)), none, 7, []⟩, o 25 (.call 55 [(T 20), (T 24)]), o 26 (.not (T 25))]),
                (.cond (T 26)
                  (sqs [
                    (.reg [o 4 (.mov (B false))]),
                    .ret])
                  .skip)])),
            (.reg [o 15 (.mov (T 5)), o 16 (.bin .add (T 15) (I 1)), o 5 (.mov (T 16))])])))]),
    (.reg [o 4 (.mov (B true))]),
    .ret])
theorem ok122 : cfn Tryz.prog Tryz.f122 2 = some (s122, [.tmp 4]) := by kernel_rfl

/-! 123 laws.markIntSS -/
def s123 : SCode :=
  (sqs [
    (.reg [o 4 (.mov (I 0))]),
    (sqs [
      (.reg [o 5 (.mov (I 0))]),
      (.block 0
        (.loop
          (sqs [
            (sqs [
              (.reg [o 6 (.mov (T 5)), o 7 (.mov (T 0)), o 8 (.len (T 7)), o 9 (.bin .lss (T 6) (T 8))]),
              (.cond (T 9)
                .skip
                (.exit 0))]),
            (.block 1
              (.reg [o 12 (.mov (T 0)), o 13 (.mov (T 5)), o 14 (.idxAddr 1 (T 12) (T 13)), o 15 (.load false 1 (T 14)), o 16 (.mov (T 1)), o 17 (.call 56 [(T 15), (T 16)]), o 1 (.mov (T 17))])),
            (.reg [o 10 (.mov (T 5)), o 11 (.bin .add (T 10) (I 1)), o 5 (.mov (T 11))])])))]),
    (.reg [o 18 (.mov (T 1)), o 4 (.mov (T 18))]),
    .ret])
theorem ok123 : cfn Tryz.prog Tryz.f123 2 = some (s123, [.tmp 4]) := by kernel_rfl

/-! 124 laws.heldIntS -/
def s124 : SCode :=
  (sqs [
    (.reg [o 4 (.mov (I 0))]),
    (sqs [
      (.reg [o 5 (.mov (I 0))]),
      (.block 0
        (.loop
          (sqs [
            (sqs [
              (.reg [o 6 (.mov (T 5)), o 7 (.mov (T 0)), o 8 (.len (T 7)), o 9 (.bin .lss (T 6) (T 8))]),
              (.cond (T 9)
                .skip
                (.exit 0))]),
            (.block 1
              (sqs [
                (sqs [
                  (.reg [o 12 (.mov (T 0)), o 13 (.mov (T 5)), o 14 (.idxAddr 1 (T 12) (T 13)), o 15 (.load false 1 (T 14)), o 16 (.mov (T 1)), o 17 (.bin .neq (T 15) (T 16))]),
                  (.cond (T 17)
                    (sqs [
                      (.reg [o 4 (.mov (I (-1)))]),
                      .ret])
                    .skip)]),
                (.reg [o 18 (.mov (T 1)), o 19 (.bin .add (T 18) (I 1)), o 1 (.mov (T 19))])])),
            (.reg [o 10 (.mov (T 5)), o 11 (.bin .add (T 10) (I 1)), o 5 (.mov (T 11))])])))]),
    (.reg [o 20 (.mov (T 1)), o 4 (.mov (T 20))]),
    .ret])
theorem ok124 : cfn Tryz.prog Tryz.f124 2 = some (s124, [.tmp 4]) := by kernel_rfl

/-! 125 laws.heldIntSS -/
def s125 : SCode :=
  (sqs [
    (.reg [o 4 (.mov (I 0))]),
    (sqs [
      (.reg [o 5 (.mov (I 0))]),
      (.block 0
        (.loop
          (sqs [
            (sqs [
              (.reg [o 6 (.mov (T 5)), o 7 (.mov (T 0)), o 8 (.len (T 7)), o 9 (.bin .lss (T 6) (T 8))]),
              (.cond (T 9)
                .skip
                (.exit 0))]),
            (.block 1
              (sqs [
                (.reg [o 12 (.mov (T 0)), o 13 (.mov (T 5)), o 14 (.idxAddr 1 (T 12) (T 13)), o 15 (.load false 1 (T 14)), o 16 (.mov (T 1)), o 17 (.call 124 [(T 15), (T 16)]), o 1 (.mov (T 17))]),
                (.reg [o 18 (.mov (T 1)), o 19 (.bin .lss (T 18) (I 0))]),
                (.cond (T 19)
                  (sqs [
                    (.reg [o 4 (.mov (I (-1)))]),
                    .ret])
                  .skip)])),
            (.reg [o 10 (.mov (T 5)), o 11 (.bin .add (T 10) (I 1)), o 5 (.mov (T 11))])])))]),
    (.reg [o 20 (.mov (T 1)), o 4 (.mov (T 20))]),
    .ret])
theorem ok125 : cfn Tryz.prog Tryz.f125 2 = some (s125, [.tmp 4]) := by kernel_rfl

/-! 130 impl.harvested -/
def s130 : SCode :=
  (sqs [
    (.reg [o 2 (.box 4 (T 0)), o 4 (.mov N), o 5 (.mov (I 0)), o 6 (.mov (B false))]),
    (sqs [
      (.reg [o 11 (.load true 4 (T 2)), o 12 (.call 68 [(T 11)]), o 13 (.not (T 12)), o 14 (.mov (T 13)), og 15 (.mov (T 1)) 14 false, og 16 (.len (T 15)) 14 false, og 17 (.bin .gtr (T 16) (I 500)) 14 false, o 18 (.pick (T 14) (B true) (T 17)), o 19 (.mov (T 18)), og 20 (.mov (T 1)) 19 false, og 21 (.call 188 [(T 20)]) 19 false, og 22 (.not (T 21)) 19 false, o 23 (.pick (T 19) (B true) (T 22))]),
      (.cond (T 23)
        (sqs [
          (.reg [o 4 (.mov N), o 5 (.mov (I 0)), o 6 (.mov (B false))]),
          .ret])
        .skip)]),
    (.reg [o 24 (.lit 0 1 [(.int .i64 0)] []), o 7 (.mov (T 24))]),
    (.reg [o 8 (.mov (I 0))]),
    (sqs [
      (.reg [o 25 (.mov (T 1)), o 26 (.len (T 25)), o 27 (.mov (I 0))]),
      (.block 0
        (.loop
          (sqs [
            (.reg [o 28 (.bin .lss (T 27) (T 26))]),
            (.cond (T 28)
              .skip
              (.exit 0)),
            (.block 1
              (sqs [
                (.reg [o 29 (.idxAddr 1 (T 25) (T 27)), o 30 (.load false 1 (T 29)), o 10 (.mov (T 30))]),
                (.reg [o 31 (.mov (T 8)), o 32 (.fieldAddr 0 (T 2)), o 33 (.load false 1 (T 32)), o 34 (.mov (T 10)), o 35 (.bin .add (T 33) (T 34)), o 36 (.fieldAddr 3 (T 2)), o 37 (.load false 1 (T 36)), o 38 (.bin .sub (T 35) (T 37)), o 39 (.fieldAddr 1 (T 2)), o 40 (.load false 1 (T 39)), o 41 (.bin .sub (T 38) (T 40)), o 42 (.max (I 0) (T 41)), o 43 (.bin .add (T 31) (T 42)), o 8 (.mov (T 43))]),
                (.reg [o 44 (.mov (T 10)), o 45 (.call 189 [(T 2), (T 44)])]),
                (.reg [o 46 (.fieldAddr 0 (T 2)), o 47 (.load false 1 (T 46)), o 48 (.fieldAddr 2 (T 2)), o 49 (.load false 1 (T 48)), o 50 (.bin .geq (T 47) (T 49))]),
                (.cond (T 50)
                  (sqs [
                    (.reg [o 51 (.mov (T 7)), o 52 (.fieldAddr 0 (T 2)), o 53 (.load false 1 (T 52)), o 54 (.lit 1 1 [(.int .i64 0)] [(0, (T 53))]), o 55 (.append 1 8 (T 51) (T 54)), o 7 (.mov (T 55))]),
                    (.reg [o 56 (.fieldAddr 0 (T 2)), on_ (.store 1 (T 56) (I 0))])])
                  .skip)])),
            (.reg [o 57 (.bin .add (T 27) (I 1)), o 27 (.mov (T 57))])])))]),
    (.reg [o 58 (.mov (T 7)), o 59 (.mov (T 8)), o 4 (.mov (T 58)), o 5 (.mov (T 59)), o 6 (.mov (B true))]),
    .ret])
theorem ok130 : cfn Tryz.prog Tryz.f130 2 = some (s130, [.tmp 4, .tmp 5, .tmp 6]) := by kernel_rfl

/-! 131 impl.ProgramOk$1 -/
def s131 : SCode :=
  (sqs [
    (.reg [o 1 (.box 4 (T 0)), o 2 (.mov (B false))]),
    (.reg [o 3 (.load true 4 (T 1)), o 4 (.call 93 [(T 3)]), o 5 (.not (T 4)), o 2 (.mov (T 5))]),
    .ret])
theorem ok131 : cfn Tryz.prog Tryz.f131 1 = some (s131, [.tmp 2]) := by kernel_rfl

/-! 133 impl.StmtOk -/
def s133 : SCode :=
  (sqs [
    (.reg [o 1 (.box 6 (T 0)), o 2 (.mov (B false))]),
    (sqs [
      (.reg [o 3 (.fieldAddr 0 (T 1)), o 4 (.load false 1 (T 3)), o 5 (.call 114 [(T 4), (I 1), (I 6)]), o 6 (.not (T 5)), o 7 (.mov (T 6)), og 8 (.fieldAddr 0 (T 1)) 7 false, og 9 (.load false 1 (T 8)) 7 false, og 10 (.call 190 [(T 9)]) 7 false, og 11 (.mov (T 10)) 7 false, og 12 (.fieldAddr 1 (T 1)) 11 true, og 13 (.load false 1 (T 12)) 11 true, og 14 (.call 150 [(T 13)]) 11 true, og 15 (.not (T 14)) 11 true, og 16 (.pick (T 11) (T 15) (B false)) 7 false, o 17 (.pick (T 7) (B true) (T 16)), o 18 (.mov (T 17)), og 19 (.fieldAddr 0 (T 1)) 18 false, og 20 (.load false 1 (T 19)) 18 false, og 21 (.call 190 [(T 20)]) 18 false, og 22 (.not (T 21)) 18 false, og 23 (.mov (T 22)) 18 false, og 24 (.fieldAddr 1 (T 1)) 23 true, og 25 (.load false 1 (T 24)) 23 true, og 26 (.bin .neq (T 25) (I 0)) 23 true, og 27 (.pick (T 23) (T 26) (B false)) 18 false, o 28 (.pick (T 18) (B true) (T 27))]),
      (.cond (T 28)
        (sqs [
          (.reg [o 2 (.mov (B false))]),
          .ret])
        .skip)]),
    (sqs [
      (.reg [o 29 (.fieldAddr 0 (T 1)), o 30 (.load false 1 (T 29)), o 31 (.call 191 [(T 30)]), o 32 (.mov (T 31)), og 33 (.fieldAddr 3 (T 1)) 32 true, og 34 (.load true 3 (T 33)) 32 true, og 35 (.call 160 [(T 34)]) 32 true, og 36 (.not (T 35)) 32 true, o 37 (.pick (T 32) (T 36) (B false)), o 38 (.mov (T 37)), og 39 (.fieldAddr 0 (T 1)) 38 false, og 40 (.load false 1 (T 39)) 38 false, og 41 (.call 191 [(T 40)]) 38 false, og 42 (.not (T 41)) 38 false, og 43 (.mov (T 42)) 38 false, og 44 (.fieldAddr 3 (T 1)) 43 true, og 45 (.load true 3 (T 44)) 43 true, og 46 (.build [(.int .i64 0), (.int .i64 0), (.int .i64 0)] []) 43 true, og 47 (.eqs 46 true (T 45) (T 46)) 43 true, og 48 (.pick (T 43) (T 47) (B false)) 38 false, o 49 (.pick (T 38) (B true) (T 48))]),
      (.cond (T 49)
        (sqs [
          (.reg [o 2 (.mov (B false))]),
          .ret])
        .skip)]),
    (sqs [
      (.reg [o 50 (.fieldAddr 0 (T 1)), o 51 (.load false 1 (T 50))]),
      (.block 0
        (sqs [
          (.reg [o 53 (.bin .eql (T 51) (I 2)), o 52 (.mov (T 53))]),
          (.cond (T 52)
            (sqs [
              (.reg [o 54 (.fieldAddr 2 (T 1)), o 55 (.load false 1 (T 54)), o 56 (.call 192 [(T 55)]), o 2 (.mov (T 56))]),
              .ret])
            (sqs [
              (.reg [o 58 (.bin .eql (T 51) (I 5)), o 57 (.mov (T 58))]),
              (.cond (T 57)
                (sqs [
                  (.reg [o 59 (.fieldAddr 2 (T 1)), o 60 (.load false 1 (T 59)), o 61 (.call 114 [(T 60), (I 1), (I 5)]), o 2 (.mov (T 61))]),
                  .ret])
                .skip)]))]))]),
    (.reg [o 62 (.fieldAddr 2 (T 1)), o 63 (.load false 1 (T 62)), o 64 (.bin .eql (T 63) (I 0)), o 2 (.mov (T 64))]),
    .ret])
theorem ok133 : cfn Tryz.prog Tryz.f133 1 = some (s133, [.tmp 2]) := by kernel_rfl

/-! 134 impl.isOpening -/
def s134 : SCode :=
  (sqs [
    (.reg [o 2 (.mov (B false))]),
    (.reg [o 3 (.mov (T 0)), o 4 (.bin .eql (T 3) (I 4)), o 5 (.mov (T 4)), og 6 (.mov (T 0)) 5 false, og 7 (.bin .eql (T 6) (I 5)) 5 false, o 8 (.pick (T 5) (B true) (T 7)), o 2 (.mov (T 8))]),
    .ret])
theorem ok134 : cfn Tryz.prog Tryz.f134 1 = some (s134, [.tmp 2]) := by kernel_rfl

/-! 135 spec.StmtOk -/
def s135 : SCode :=
  (sqs [
    (.reg [o 1 (.box 6 (T 0)), o 2 (.mov (B false))]),
    (sqs [
      (.regD [o 3 (.load true 6 (T 1)), ⟨some 4, (.load true 6 (T 1)), none, 1, []⟩, ⟨some 5, (.call 193 [(T 4)]), none, 0, [0]⟩, o 6 (.eqs 109 true (T 3) (T 5))]),
      (.cond (T 6)
        (sqs [
          (.reg [o 2 (.mov (B false))]),
          .ret])
        .skip)]),
    (sqs [
      (.reg [o 7 (.fieldAddr 0 (T 1)), o 8 (.load false 1 (T 7))]),
      (.block 0
        (sqs [
          (.reg [o 10 (.bin .eql (T 8) (I 1)), o 9 (.mov (T 10))]),
          (.cond (T 9)
            (sqs [
              (.reg [o 11 (.fieldAddr 1 (T 1)), o 12 (.load false 1 (T 11)), o 13 (.call 99 [(T 12), (I 0), (I 7)]), o 14 (.mov (T 13)), og 15 (.fieldAddr 3 (T 1)) 14 true, og 16 (.load true 3 (T 15)) 14 true, og 17 (.call 174 [(T 16)]) 14 true, o 18 (.pick (T 14) (T 17) (B false)), o 2 (.mov (T 18))]),
              .ret])
            (sqs [
              (.reg [o 20 (.bin .eql (T 8) (I 2)), o 19 (.mov (T 20))]),
              (.cond (T 19)
                (sqs [
                  (.reg [o 21 (.fieldAddr 1 (T 1)), o 22 (.load false 1 (T 21)), o 23 (.call 99 [(T 22), (I 0), (I 7)]), o 24 (.mov (T 23)), og 25 (.fieldAddr 2 (T 1)) 24 true, og 26 (.load false 1 (T 25)) 24 true, og 27 (.call 99 [(T 26), (I 0), (I 3)]) 24 true, o 28 (.pick (T 24) (T 27) (B false)), o 2 (.mov (T 28))]),
                  .ret])
                (sqs [
                  (sqs [
                    (.reg [o 30 (.bin .eql (T 8) (I 3)), o 29 (.mov (T 30))]),
                    (.cond (T 29)
                      .skip
                      (.reg [o 31 (.bin .eql (T 8) (I 4)), o 29 (.mov (T 31))]))]),
                  (.cond (T 29)
                    (sqs [
                      (.reg [o 32 (.fieldAddr 3 (T 1)), o 33 (.load true 3 (T 32)), o 34 (.call 174 [(T 33)]), o 2 (.mov (T 34))]),
                      .ret])
                    (sqs [
                      (.reg [o 36 (.bin .eql (T 8) (I 5)), o 35 (.mov (T 36))]),
                      (.cond (T 35)
                        (sqs [
                          (.reg [o 37 (.fieldAddr 2 (T 1)), o 38 (.load false 1 (T 37)), o 39 (.call 99 [(T 38), (I 1), (I 5)]), o 2 (.mov (T 39))]),
                          .ret])
                        .skip)]))]))]))]))]),
    (.reg [o 40 (.fieldAddr 0 (T 1)), o 41 (.load false 1 (T 40)), o 42 (.bin .eql (T 41) (I 6)), o 2 (.mov (T 42))]),
    .ret])
theorem ok135 : cfn Tryz.prog Tryz.f135 1 = some (s135, [.tmp 2]) := by kernel_rfl

/-! 136 spec.l05Opens -/
def s136 : SCode :=
  (sqs [
    (.reg [o 1 (.box 6 (T 0)), o 2 (.mov (B false))]),
    (.reg [o 3 (.fieldAddr 0 (T 1)), o 4 (.load false 1 (T 3)), o 5 (.bin .eql (T 4) (I 4)), o 6 (.mov (T 5)), og 7 (.fieldAddr 0 (T 1)) 6 false, og 8 (.load false 1 (T 7)) 6 false, og 9 (.bin .eql (T 8) (I 5)) 6 false, o 10 (.pick (T 6) (B true) (T 9)), o 2 (.mov (T 10))]),
    .ret])
theorem ok136 : cfn Tryz.prog Tryz.f136 1 = some (s136, [.tmp 2]) := by kernel_rfl

/-! 137 spec.l05End -/
def s137 : SCode :=
  (sqs [
    (.reg [o 4 (.mov (I 0))]),
    (.reg [o 5 (.mov (I 0))]),
    (sqs [
      (.reg [o 7 (.mov (T 1)), o 6 (.mov (T 7))]),
      (.block 0
        (.loop
          (sqs [
            (sqs [
              (.reg [o 8 (.mov (T 6)), o 9 (.mov (T 0)), o 10 (.len (T 9)), o 11 (.bin .lss (T 8) (T 10))]),
              (.cond (T 11)
                .skip
                (.exit 0))]),
            (.block 1
              (sqs [
                (sqs [
                  (.reg [o 14 (.mov (T 0)), o 15 (.mov (T 6)), o 16 (.idxAddr 6 (T 14) (T 15)), o 17 (.load true 6 (T 16)), o 18 (.call 136 [(T 17)])]),
                  (.cond (T 18)
                    (.reg [o 19 (.mov (T 5)), o 20 (.bin .add (T 19) (I 1)), o 5 (.mov (T 20))])
                    .skip)]),
                (.reg [o 21 (.mov (T 0)), o 22 (.mov (T 6)), o 23 (.idxAddr 6 (T 21) (T 22)), o 24 (.fieldAddr 0 (T 23)), o 25 (.load false 1 (T 24)), o 26 (.bin .eql (T 25) (I 6))]),
                (.cond (T 26)
                  (sqs [
                    (.reg [o 27 (.mov (T 5)), o 28 (.bin .sub (T 27) (I 1)), o 5 (.mov (T 28))]),
                    (.reg [o 29 (.mov (T 5)), o 30 (.bin .eql (T 29) (I 0))]),
                    (.cond (T 30)
                      (sqs [
                        (.reg [o 31 (.mov (T 6)), o 4 (.mov (T 31))]),
                        .ret])
                      .skip)])
                  .skip)])),
            (.reg [o 12 (.mov (T 6)), o 13 (.bin .add (T 12) (I 1)), o 6 (.mov (T 13))])])))]),
    (.reg [o 4 (.mov (I (-1)))]),
    .ret])
theorem ok137 : cfn Tryz.prog Tryz.f137 2 = some (s137, [.tmp 4]) := by kernel_rfl

/-! 138 slices.Index[[]int,int] -/
def s138 : SCode :=
  (sqs [
    (.reg [o 4 (.mov (I 0))]),
    (sqs [
      (.reg [o 6 (.mov (T 0)), o 7 (.len (T 6)), o 8 (.mov (I 0))]),
      (.block 0
        (.loop
          (sqs [
            (.reg [o 9 (.bin .lss (T 8) (T 7))]),
            (.cond (T 9)
              .skip
              (.exit 0)),
            (.block 1
              (sqs [
                (.reg [o 10 (.mov (T 8)), o 5 (.mov (T 10))]),
                (.reg [o 11 (.mov (T 1)), o 12 (.mov (T 0)), o 13 (.mov (T 5)), o 14 (.idxAddr 1 (T 12) (T 13)), o 15 (.load false 1 (T 14)), o 16 (.bin .eql (T 11) (T 15))]),
                (.cond (T 16)
                  (sqs [
                    (.reg [o 17 (.mov (T 5)), o 4 (.mov (T 17))]),
                    .ret])
                  .skip)])),
            (.reg [o 18 (.bin .add (T 8) (I 1)), o 8 (.mov (T 18))])])))]),
    (.reg [o 4 (.mov (I (-1)))]),
    .ret])
theorem ok138 : cfn Tryz.prog Tryz.f138 2 = some (s138, [.tmp 4]) := by kernel_rfl

/-! 140 impl.ReadsOf -/
def s140 : SCode :=
  (sqs [
    (.reg [o 1 (.box 3 (T 0)), o 2 (.mov N)]),
    (sqs [
      (.reg [o 6 (.load true 3 (T 1)), o 7 (.call 160 [(T 6)]), o 8 (.not (T 7))]),
      (.cond (T 8)
        (sqs [
          (.reg [o 2 (.mov N)]),
          .ret])
        .skip)]),
    (.reg [o 9 (.lit 0 1 [(.int .i64 0)] []), o 3 (.mov (T 9))]),
    (sqs [
      (.reg [o 10 (.fieldAddr 1 (T 1)), o 11 (.load false 1 (T 10)), o 12 (.fieldAddr 2 (T 1)), o 13 (.load false 1 (T 12)), o 14 (.lit 2 1 [(.int .i64 0)] [(0, (T 11)), (1, (T 13))]), o 15 (.len (T 14)), o 16 (.mov (I 0))]),
      (.block 0
        (.loop
          (sqs [
            (.reg [o 17 (.bin .lss (T 16) (T 15))]),
            (.cond (T 17)
              .skip
              (.exit 0)),
            (.block 1
              (sqs [
                (.reg [o 18 (.idxAddr 1 (T 14) (T 16)), o 19 (.load false 1 (T 18)), o 5 (.mov (T 19))]),
                (.reg [o 20 (.mov (T 5)), o 21 (.bin .lss (T 20) (I 0))]),
                (.cond (T 21)
                  (.reg [o 22 (.mov (T 3)), o 23 (.mov (T 5)), o 24 (.bin .sub (I (-1)) (T 23)), o 25 (.lit 1 1 [(.int .i64 0)] [(0, (T 24))]), o 26 (.append 1 8 (T 22) (T 25)), o 3 (.mov (T 26))])
                  .skip)])),
            (.reg [o 27 (.bin .add (T 16) (I 1)), o 16 (.mov (T 27))])])))]),
    (.reg [o 28 (.mov (T 3)), o 29 (.call 194 [(T 28)])]),
    (.reg [o 30 (.mov (T 3)), o 31 (.call 195 [(T 30)]), o 2 (.mov (T 31))]),
    .ret])
theorem ok140 : cfn Tryz.prog Tryz.f140 1 = some (s140, [.tmp 2]) := by kernel_rfl

end Go.Av

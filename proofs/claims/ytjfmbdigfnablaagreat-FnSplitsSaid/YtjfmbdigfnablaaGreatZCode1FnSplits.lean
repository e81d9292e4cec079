import Derived.Test.YtjfmbdigfnablaaGreatAv23
import Derived.Test.YtjfmbdigfnablaaGreatProg
namespace Go.Av
open Go.Proofs
set_option maxRecDepth 1000000
/-! 4 laws.FnSplits -/
def s4 : SCode :=
  (sqs [
    (.reg [o 2 (.mov (B false))]),
    (sqs [
      (.reg [o 18 (.mov (T 0)), o 19 (.call 13 [(T 18)])]),
      (.cond (T 19)
        (sqs [
          (.reg [o 2 (.mov (B true))]),
          .ret])
        .skip)]),
    (.reg [o 20 (.mov (T 0)), o 21 (.call 22 [(T 20)]), o 3 (.hole 1), o 3 (.birth 1 (T 3) (T 21))]),
    (.reg [o 22 (.mov (T 0)), o 23 (.call 23 [(T 22)]), o 4 (.mov (T 23))]),
    (.reg [o 24 (.mov (T 0)), o 25 (.call 15 [(T 24)]), o 5 (.mov (T 25))]),
    (.reg [o 26 (.mov (T 0)), o 27 (.call 24 [(T 26)]), o 6 (.mov (T 27))]),
    (.regD [o 28 (.mov (T 6)), o 29 (.idxAddr 1 (T 28) (I 0)), ⟨some 30, (.load false 1 (T 29)), none, 2, []⟩, o 31 (.fieldAddr 0 (T 3)), ⟨some 32, (.load false 1 (T 31)), none, 4, []⟩, o 33 (.len (T 32)), o 34 (.bin .rem (T 30) (T 33)), o 7 (.mov (T 34))]),
    (.reg [o 35 (.fieldAddr 0 (T 3)), o 36 (.load false 1 (T 35)), o 37 (.mov (T 7)), o 38 (.idxAddr 4 (T 36) (T 37)), o 39 (.fieldAddr 0 (T 38)), o 40 (.load false 1 (T 39)), o 41 (.call 25 [(T 40)]), o 8 (.mov (T 41))]),
    (sqs [
      (.reg [o 42 (.mov (T 8)), o 43 (.len (T 42)), o 44 (.fieldAddr 0 (T 3)), o 45 (.load false 1 (T 44)), o 46 (.mov (T 7)), o 47 (.idxAddr 4 (T 45) (T 46)), o 48 (.fieldAddr 0 (T 47)), o 49 (.load false 1 (T 48)), o 50 (.call 26 [(T 49)]), o 51 (.len (T 50)), o 52 (.bin .neq (T 43) (T 51))]),
      (.cond (T 52)
        (sqs [
          (.reg [o 2 (.mov (B false))]),
          .ret])
        .skip)]),
    (sqs [
      (.reg [o 53 (.mov (T 8)), o 54 (.len (T 53)), o 55 (.bin .eql (T 54) (I 0))]),
      (.cond (T 55)
        (sqs [
          (.reg [o 2 (.mov (B true))]),
          .ret])
        .skip)]),
    (.regD [o 57 (.load true 1 (T 3)), o 58 (.mov (T 7)), o 59 (.mov (T 8)), o 60 (.mov (T 6)), o 61 (.idxAddr 1 (T 60) (I 1)), ⟨some 62, (.load false 1 (T 61)), none, 5, []⟩, o 63 (.mov (T 8)), o 64 (.len (T 63)), o 65 (.bin .rem (T 62) (T 64)), o 66 (.idxAddr 1 (T 59) (T 65)), ⟨some 67, (.load false 1 (T 66)), none, 10, []⟩, o 9 (.hole 1), o 68 (.call 27 [(T 57), (T 58), (T 67)]), o 56 (.mov (T 68)), o 69 (.ext 0 (T 56)), o 70 (.ext 1 (T 56)), o 9 (.birth 1 (T 9) (T 69)), o 10 (.mov (T 70))]),
    (sqs [
      (.reg [o 71 (.mov (T 10)), o 72 (.not (T 71))]),
      (.cond (T 72)
        (sqs [
          (.reg [o 2 (.mov (B false))]),
          .ret])
        .skip)]),
    (.reg [o 74 (.load true 1 (T 3)), o 75 (.mov (T 7)), o 76 (.mov (T 4)), o 77 (.mov (T 5)), o 78 (.call 28 [(T 74), (T 75), (T 76), (T 77)]), o 73 (.mov (T 78)), o 79 (.ext 0 (T 73)), o 80 (.ext 1 (T 73)), o 11 (.hole 4), o 11 (.birth 4 (T 11) (T 79)), o 12 (.mov (T 80))]),
    (.reg [o 82 (.load true 1 (T 9)), o 83 (.mov (T 7)), o 84 (.mov (T 4)), o 85 (.mov (T 5)), o 86 (.call 28 [(T 82), (T 83), (T 84), (T 85)]), o 81 (.mov (T 86)), o 87 (.ext 0 (T 81)), o 88 (.ext 1 (T 81)), o 13 (.hole 4), o 13 (.birth 4 (T 13) (T 87)), o 14 (.mov (T 88))]),
    (sqs [
      (.reg [o 89 (.mov (T 12)), o 90 (.not (T 89)), o 91 (.mov (T 90)), og 92 (.mov (T 14)) 91 false, og 93 (.not (T 92)) 91 false, o 94 (.pick (T 91) (B true) (T 93)), o 95 (.mov (T 94)), og 96 (.fieldAddr 2 (T 13)) 95 false, og 97 (.load false 1 (T 96)) 95 false, og 98 (.fieldAddr 0 (T 3)) 95 false, og 99 (.load false 1 (T 98)) 95 false, og 100 (.len (T 99)) 95 false, og 101 (.bin .neq (T 97) (T 100)) 95 false, o 102 (.pick (T 95) (B true) (T 101)), o 103 (.mov (T 102)), og 104 (.fieldAddr 3 (T 13)) 103 false, og 105 (.load false 1 (T 104)) 103 false, og 106 (.bin .lss (T 105) (I 0)) 103 false, o 107 (.pick (T 103) (B true) (T 106))]),
      (.cond (T 107)
        (sqs [
          (.reg [o 2 (.mov (B false))]),
          .ret])
        .skip)]),
    (.reg [o 108 (.mov (T 5)), o 109 (.fieldAddr 3 (T 13)), o 110 (.load false 1 (T 109)), o 111 (.mov (T 5)), o 112 (.len (T 111)), o 113 (.min (T 110) (T 112)), o 114 (.slice 1 (T 108) (some (T 113)) none), o 15 (.mov (T 114))]),
    (.reg [o 116 (.load true 1 (T 9)), o 117 (.fieldAddr 2 (T 13)), o 118 (.load false 1 (T 117)), o 119 (.fieldAddr 0 (T 13)), o 120 (.load false 1 (T 119)), o 121 (.mov (T 15)), o 122 (.call 28 [(T 116), (T 118), (T 120), (T 121)]), o 115 (.mov (T 122)), o 123 (.ext 0 (T 115)), o 124 (.ext 1 (T 115)), o 16 (.hole 4), o 16 (.birth 4 (T 16) (T 123)), o 17 (.mov (T 124))]),
    (.regD [o 125 (.mov (T 17)), o 126 (.mov (T 125)), og 127 (.fieldAddr 0 (T 11)) 126 true, ⟨some 128, (.load false 1 (T 127)), some (126, true), 3, []⟩, og 129 (.fieldAddr 0 (T 16)) 126 true, ⟨some 130, (.load false 1 (T 129)), some (126, true), 5, []⟩, og 131 (.call 29 [(T 128), (T 130)]) 126 true, o 132 (.pick (T 126) (T 131) (B false)), o 133 (.mov (T 132)), og 134 (.fieldAddr 1 (T 11)) 133 true, ⟨some 135, (.load false 1 (T 134)), some (133, true), 10, []⟩, og 137 (.fieldAddr 1 (T 13)) 133 true, ⟨some 138, (.load false 1 (T 137)), some (133, true), 13, []⟩, og 140 (.fieldAddr 1 (T 16)) 133 true, ⟨some 141, (.load false 1 (T 140)), some (133, true), 16, []⟩, ⟨some 136, (.lit 0 1 [(.int .i64 0)] []), some (133, true), 0, [10, 13, 16]⟩, ⟨some 139, (.append 1 8 (T 136) (T 138)), some (133, true), 0, [10, 16]⟩, ⟨some 142, (.append 1 8 (T 139) (T 141)), some (133, true), 0, [10]⟩, og 143 (.call 29 [(T 135), (T 142)]) 133 true, o 144 (.pick (T 133) (T 143) (B false)), o 145 (.mov (T 144)), og 146 (.fieldAddr 2 (T 11)) 145 true, ⟨some 147, (.load false 1 (T 146)), some (145, true), 22, []⟩, og 148 (.fieldAddr 2 (T 16)) 145 true, ⟨some 149, (.load false 1 (T 148)), some (145, true), 24, []⟩, og 150 (.bin .eql (T 147) (T 149)) 145 true, o 151 (.pick (T 145) (T 150) (B false)), o 152 (.mov (T 151)), og 153 (.fieldAddr 3 (T 11)) 152 true, ⟨some 154, (.load false 1 (T 153)), some (152, true), 29, []⟩, og 155 (.fieldAddr 3 (T 13)) 152 true, ⟨some 156, (.load false 1 (T 155)), some (152, true), 31, []⟩, og 157 (.fieldAddr 3 (T 16)) 152 true, ⟨some 158, (.load false 1 (T 157)), some (152, true), 33, []⟩, og 159 (.bin .add (T 156) (T 158)) 152 true, og 160 (.bin .eql (T 154) (T 159)) 152 true, o 161 (.pick (T 152) (T 160) (B false)), o 2 (.mov (T 161))]),
    .ret])
theorem ok4 : cfn Tryz.prog Tryz.f4 1 = some (s4, [.tmp 2]) := by kernel_rfl

/-! 13 laws.big -/
def s13 : SCode :=
  (sqs [
    (.reg [o 2 (.mov (B false))]),
    (.reg [o 3 (.mov (T 0)), o 4 (.len (T 3)), o 5 (.bin .gtr (T 4) (I 1048576)), o 2 (.mov (T 5))]),
    .ret])
theorem ok13 : cfn Tryz.prog Tryz.f13 1 = some (s13, [.tmp 2]) := by kernel_rfl

/-! 15 spec.DrawReadings -/
def s15 : SCode :=
  (sqs [
    (.reg [o 2 (.mov N)]),
    (.reg [o 3 (.mov (T 0)), o 4 (.call 59 [(T 3)]), o 5 (.call 65 [(T 4)]), o 2 (.mov (T 5))]),
    .ret])
theorem ok15 : cfn Tryz.prog Tryz.f15 1 = some (s15, [.tmp 2]) := by kernel_rfl

/-! 22 spec.DrawRigid -/
def s22 : SCode :=
  (sqs [
    (.reg [o 2 (.zero [.nils])]),
    (.reg [o 3 (.mov (T 0)), o 4 (.call 59 [(T 3)]), o 5 (.call 72 [(T 4)]), on_ (.store 1 (T 2) (T 5))]),
    .ret])
theorem ok22 : cfn Tryz.prog Tryz.f22 1 = some (s22, [.cell 2 true 1]) := by kernel_rfl

/-! 23 spec.DrawVars -/
def s23 : SCode :=
  (sqs [
    (.reg [o 2 (.mov N)]),
    (.reg [o 3 (.mov (T 0)), o 4 (.call 59 [(T 3)]), o 5 (.call 73 [(T 4)]), o 2 (.mov (T 5))]),
    .ret])
theorem ok23 : cfn Tryz.prog Tryz.f23 1 = some (s23, [.tmp 2]) := by kernel_rfl

/-! 24 spec.DrawPlaces -/
def s24 : SCode :=
  (sqs [
    (.reg [o 2 (.mov N)]),
    (.reg [o 6 (.mov (T 0)), o 7 (.call 59 [(T 6)]), o 3 (.mov (T 7))]),
    (.reg [o 8 (.lit 0 1 [(.int .i64 0)] []), o 4 (.mov (T 8))]),
    (sqs [
      (.reg [o 5 (.mov (I 0))]),
      (.block 0
        (.loop
          (sqs [
            (sqs [
              (.reg [o 9 (.mov (T 5)), o 10 (.bin .lss (T 9) (I 12))]),
              (.cond (T 10)
                .skip
                (.exit 0))]),
            (.block 1
              (.reg [o 13 (.mov (T 4)), o 14 (.mov (T 3)), o 15 (.call 74 [(T 14), (I 10000)]), o 16 (.lit 1 1 [(.int .i64 0)] [(0, (T 15))]), o 17 (.append 1 8 (T 13) (T 16)), o 4 (.mov (T 17))])),
            (.reg [o 11 (.mov (T 5)), o 12 (.bin .add (T 11) (I 1)), o 5 (.mov (T 12))])])))]),
    (.reg [o 18 (.mov (T 4)), o 2 (.mov (T 18))]),
    .ret])
theorem ok24 : cfn Tryz.prog Tryz.f24 1 = some (s24, [.tmp 2]) := by kernel_rfl

/-! 25 impl.CutPoints -/
def s25 : SCode :=
  (sqs [
    (.reg [o 2 (.mov N)]),
    (sqs [
      (.reg [o 5 (.mov (T 0)), o 6 (.call 75 [(T 5)]), o 7 (.not (T 6))]),
      (.cond (T 7)
        (sqs [
          (.reg [o 2 (.mov N)]),
          .ret])
        .skip)]),
    (.reg [o 8 (.lit 0 1 [(.int .i64 0)] []), o 3 (.mov (T 8))]),
    (sqs [
      (.reg [o 4 (.mov (I 1))]),
      (.block 0
        (.loop
          (sqs [
            (sqs [
              (.reg [o 9 (.mov (T 4)), o 10 (.mov (T 0)), o 11 (.len (T 10)), o 12 (.bin .lss (T 9) (T 11))]),
              (.cond (T 12)
                .skip
                (.exit 0))]),
            (.block 1
              (sqs [
                (.reg [o 15 (.mov (T 0)), o 16 (.mov (T 4)), o 17 (.call 76 [(T 15), (T 16)]), o 18 (.bin .eql (T 17) (I 0)), o 19 (.mov (T 18)), og 20 (.mov (T 0)) 19 true, og 21 (.mov (T 4)) 19 true, og 22 (.idxAddr 6 (T 20) (T 21)) 19 true, og 23 (.fieldAddr 0 (T 22)) 19 true, og 24 (.load false 1 (T 23)) 19 true, og 25 (.bin .neq (T 24) (I 6)) 19 true, o 26 (.pick (T 19) (T 25) (B false))]),
                (.cond (T 26)
                  (.reg [o 27 (.mov (T 3)), o 28 (.mov (T 4)), o 29 (.lit 1 1 [(.int .i64 0)] [(0, (T 28))]), o 30 (.append 1 8 (T 27) (T 29)), o 3 (.mov (T 30))])
                  .skip)])),
            (.reg [o 13 (.mov (T 4)), o 14 (.bin .add (T 13) (I 1)), o 4 (.mov (T 14))])])))]),
    (.reg [o 31 (.mov (T 3)), o 2 (.mov (T 31))]),
    .ret])
theorem ok25 : cfn Tryz.prog Tryz.f25 1 = some (s25, [.tmp 2]) := by kernel_rfl

/-! 26 spec.CutPoints -/
def s26 : SCode :=
  (sqs [
    (.reg [o 2 (.mov N)]),
    (.reg [o 5 (.lit 0 1 [(.int .i64 0)] []), o 3 (.mov (T 5))]),
    (sqs [
      (.reg [o 4 (.mov (I 1))]),
      (.block 0
        (.loop
          (sqs [
            (sqs [
              (.reg [o 6 (.mov (T 4)), o 7 (.mov (T 0)), o 8 (.len (T 7)), o 9 (.bin .lss (T 6) (T 8)), o 10 (.mov (T 9)), og 11 (.mov (T 0)) 10 true, og 12 (.call 77 [(T 11)]) 10 true, o 13 (.pick (T 10) (T 12) (B false))]),
              (.cond (T 13)
                .skip
                (.exit 0))]),
            (.block 1
              (sqs [
                (.reg [o 16 (.mov (T 0)), o 17 (.mov (T 4)), o 18 (.idxAddr 6 (T 16) (T 17)), o 19 (.fieldAddr 0 (T 18)), o 20 (.load false 1 (T 19)), o 21 (.bin .neq (T 20) (I 6)), o 22 (.mov (T 21)), og 23 (.mov (T 0)) 22 true, og 24 (.mov (T 4)) 22 true, og 25 (.call 78 [(T 23), (T 24)]) 22 true, og 26 (.bin .eql (T 25) (I 0)) 22 true, o 27 (.pick (T 22) (T 26) (B false))]),
                (.cond (T 27)
                  (.reg [o 28 (.mov (T 3)), o 29 (.mov (T 4)), o 30 (.lit 1 1 [(.int .i64 0)] [(0, (T 29))]), o 31 (.append 1 8 (T 28) (T 30)), o 3 (.mov (T 31))])
                  .skip)])),
            (.reg [o 14 (.mov (T 4)), o 15 (.bin .add (T 14) (I 1)), o 4 (.mov (T 15))])])))]),
    (.reg [o 32 (.mov (T 3)), o 2 (.mov (T 32))]),
    .ret])
theorem ok26 : cfn Tryz.prog Tryz.f26 1 = some (s26, [.tmp 2]) := by kernel_rfl

/-! 27 impl.SplitTask -/
def s27 : SCode :=
  (sqs [
    (.reg [o 3 (.box 1 (T 0)), o 6 (.zero [.nils]), o 7 (.mov (B false))]),
    (sqs [
      (.reg [o 8 (.load true 1 (T 3)), o 9 (.mov (T 1)), o 10 (.call 79 [(T 8), (T 9)]), o 11 (.not (T 10)), o 12 (.mov (T 11)), og 13 (.fieldAddr 0 (T 3)) 12 false, og 14 (.load false 1 (T 13)) 12 false, og 15 (.mov (T 1)) 12 false, og 16 (.idxAddr 4 (T 14) (T 15)) 12 false, og 17 (.fieldAddr 0 (T 16)) 12 false, og 18 (.load false 1 (T 17)) 12 false, og 19 (.call 25 [(T 18)]) 12 false, og 20 (.mov (T 2)) 12 false, og 21 (.call 80 [(T 19), (T 20)]) 12 false, og 22 (.not (T 21)) 12 false, o 23 (.pick (T 12) (B true) (T 22)), o 24 (.mov (T 23)), og 25 (.fieldAddr 0 (T 3)) 24 false, og 26 (.load false 1 (T 25)) 24 false, og 27 (.len (T 26)) 24 false, og 28 (.bin .eql (T 27) (I 6)) 24 false, o 29 (.pick (T 24) (B true) (T 28)), o 30 (.mov (T 29)), og 31 (.load true 1 (T 3)) 30 false, og 32 (.call 81 [(T 31)]) 30 false, og 33 (.not (T 32)) 30 false, o 34 (.pick (T 30) (B true) (T 33))]),
      (.cond (T 34)
        (sqs [
          (.reg [o 35 (.load true 1 (T 3)), o 36 (.call 82 [(T 35)]), on_ (.store 1 (T 6) (T 36)), o 7 (.mov (B false))]),
          .ret])
        .skip)]),
    (.reg [o 37 (.load true 1 (T 3)), o 38 (.mov (T 1)), o 39 (.mov (T 2)), o 40 (.call 83 [(T 37), (T 38), (T 39)]), on_ (.store 1 (T 6) (T 40)), o 7 (.mov (B true))]),
    .ret])
theorem ok27 : cfn Tryz.prog Tryz.f27 3 = some (s27, [.cell 6 true 1, .tmp 7]) := by kernel_rfl

/-! 28 impl.TaskEffect -/
def s28 : SCode :=
  (sqs [
    (.reg [o 4 (.box 1 (T 0)), o 7 (.box 1 (T 3)), o 8 (.zero [.nils, .nils, (.int .i64 0), (.int .i64 0)]), o 9 (.mov (B false))]),
    (sqs [
      (.reg [o 10 (.load true 1 (T 4)), o 11 (.mov (T 1)), o 12 (.call 79 [(T 10), (T 11)]), o 13 (.not (T 12)), o 14 (.mov (T 13)), og 15 (.mov (T 2)) 14 false, og 16 (.call 84 [(T 15)]) 14 false, og 17 (.not (T 16)) 14 false, o 18 (.pick (T 14) (B true) (T 17)), o 19 (.mov (T 18)), og 20 (.load false 1 (T 7)) 19 false, og 21 (.call 85 [(T 20)]) 19 false, og 22 (.not (T 21)) 19 false, o 23 (.pick (T 19) (B true) (T 22))]),
      (.cond (T 23)
        (sqs [
          (.reg [o 24 (.build [.nils, .nils, (.int .i64 0), (.int .i64 0)] []), on_ (.store 4 (T 8) (T 24)), o 9 (.mov (B false))]),
          .ret])
        .skip)]),
    (.reg [o 25 (.load true 1 (T 4)), o 26 (.mov (T 1)), o 27 (.mov (T 2)), o 28 (.mkfn 87 [(T 7)]), o 29 (.call 86 [(T 25), (T 26), (T 27), (T 28)]), on_ (.store 4 (T 8) (T 29)), o 9 (.mov (B true))]),
    .ret])
theorem ok28 : cfn Tryz.prog Tryz.f28 4 = some (s28, [.cell 8 true 4, .tmp 9]) := by kernel_rfl

/-! 29 laws.sameInts -/
def s29 : SCode :=
  (sqs [
    (.reg [o 4 (.mov (B false))]),
    (sqs [
      (.reg [o 6 (.mov (T 0)), o 7 (.len (T 6)), o 8 (.mov (T 1)), o 9 (.len (T 8)), o 10 (.bin .neq (T 7) (T 9))]),
      (.cond (T 10)
        (sqs [
          (.reg [o 4 (.mov (B false))]),
          .ret])
        .skip)]),
    (sqs [
      (.reg [o 5 (.mov (I 0))]),
      (.block 0
        (.loop
          (sqs [
            (sqs [
              (.reg [o 11 (.mov (T 5)), o 12 (.mov (T 0)), o 13 (.len (T 12)), o 14 (.bin .lss (T 11) (T 13))]),
              (.cond (T 14)
                .skip
                (.exit 0))]),
            (.block 1
              (sqs [
                (.regD [o 17 (.mov (T 0)), o 18 (.mov (T 5)), o 19 (.idxAddr 1 (T 17) (T 18)), ⟨some 20, (.load false 1 (T 19)), none, 3, []⟩, o 21 (.mov (T 1)), o 22 (.mov (T 5)), o 23 (.idxAddr 1 (T 21) (T 22)), ⟨some 24, (.load false 1 (T 23)), none, 7, []⟩, o 25 (.bin .neq (T 20) (T 24))]),
                (.cond (T 25)
                  (sqs [
                    (.reg [o 4 (.mov (B false))]),
                    .ret])
                  .skip)])),
            (.reg [o 15 (.mov (T 5)), o 16 (.bin .add (T 15) (I 1)), o 5 (.mov (T 16))])])))]),
    (.reg [o 4 (.mov (B true))]),
    .ret])
theorem ok29 : cfn Tryz.prog Tryz.f29 2 = some (s29, [.tmp 4]) := by kernel_rfl

/-! 59 spec.l01New -/
def s59 : SCode :=
  (sqs [
    (.reg [o 2 (.mov (.val .nilp))]),
    (.reg [o 5 (.mov (T 0)), o 6 (.len (T 5)), o 7 (.bin .add (I 98347) (T 6)), o 3 (.mov (T 7))]),
    (sqs [
      (.reg [o 4 (.mov (I 0))]),
      (.block 0
        (.loop
          (sqs [
            (sqs [
              (.reg [o 8 (.mov (T 4)), o 9 (.mov (T 0)), o 10 (.len (T 9)), o 11 (.bin .lss (T 8) (T 10)), o 12 (.mov (T 11)), og 13 (.mov (T 4)) 12 true, og 14 (.bin .lss (T 13) (I 4000)) 12 true, o 15 (.pick (T 12) (T 14) (B false))]),
              (.cond (T 15)
                .skip
                (.exit 0))]),
            (.block 1
              (.reg [o 18 (.mov (T 3)), o 19 (.bin .mul (T 18) (I 131)), o 20 (.mov (T 0)), o 21 (.mov (T 4)), o 22 (.idxAddr 1 (T 20) (T 21)), o 23 (.load false 1 (T 22)), o 24 (.conv .i64 (T 23)), o 25 (.bin .add (T 19) (T 24)), o 26 (.bin .add (T 25) (I 7)), o 27 (.bin .and (T 26) (I 1073741823)), o 3 (.mov (T 27))])),
            (.reg [o 16 (.mov (T 4)), o 17 (.bin .add (T 16) (I 1)), o 4 (.mov (T 17))])])))]),
    (.reg [o 28 (.mov (T 0)), o 29 (.mov (T 3)), o 30 (.build [.nils, (.int .i64 0), (.int .i64 0)] [(0, 1, (T 28)), (2, 1, (T 29))]), o 31 (.box 3 (T 30)), o 2 (.mov (T 31))]),
    .ret])
theorem ok59 : cfn Tryz.prog Tryz.f59 1 = some (s59, [.tmp 2]) := by kernel_rfl

/-! 60 spec.l06Program -/
def s60 : SCode :=
  (sqs [
    (.reg [o 2 (.zero [.nils])]),
    (.reg [o 5 (.build [.nils] []), o 3 (.hole 1), o 3 (.birth 1 (T 3) (T 5))]),
    (sqs [
      (.reg [o 4 (.mov (I 0))]),
      (.block 0
        (.loop
          (sqs [
            (sqs [
              (.reg [o 6 (.mov (T 4)), o 7 (.mov (T 0)), o 8 (.call 74 [(T 7), (I 3)]), o 9 (.bin .add (I 1) (T 8)), o 10 (.bin .lss (T 6) (T 9))]),
              (.cond (T 10)
                .skip
                (.exit 0))]),
            (.block 1
              (.regD [o 13 (.fieldAddr 0 (T 3)), ⟨some 14, (.load false 1 (T 13)), none, 1, []⟩, o 15 (.mov (T 0)), o 17 (.mov (T 0)), ⟨some 16, (.call 126 [(T 15)]), none, 0, [1]⟩, ⟨some 18, (.call 127 [(T 17)]), none, 0, [1]⟩, o 19 (.build [.nils, (.int .i64 0), (.int .i64 0), (.int .i64 0)] [(0, 1, (T 16)), (1, 3, (T 18))]), ⟨some 20, (.lit 1 4 [.nils, (.int .i64 0), (.int .i64 0), (.int .i64 0)] [(0, (T 19))]), none, 0, [1]⟩, o 21 (.append 4 48 (T 14) (T 20)), o 22 (.fieldAddr 0 (T 3)), on_ (.store 1 (T 22) (T 21))])),
            (.reg [o 11 (.mov (T 4)), o 12 (.bin .add (T 11) (I 1)), o 4 (.mov (T 12))])])))]),
    (.reg [o 23 (.load true 1 (T 3)), on_ (.store 1 (T 2) (T 23))]),
    .ret])
theorem ok60 : cfn Tryz.prog Tryz.f60 1 = some (s60, [.cell 2 true 1]) := by kernel_rfl

/-! 65 spec.l12Readings -/
def s65 : SCode :=
  (sqs [
    (.reg [o 2 (.mov N)]),
    (.reg [o 5 (.lit 0 1 [(.int .i64 0)] []), o 3 (.mov (T 5))]),
    (sqs [
      (.reg [o 4 (.mov (I 0))]),
      (.block 0
        (.loop
          (sqs [
            (sqs [
              (.reg [o 6 (.mov (T 4)), o 7 (.mov (T 0)), o 8 (.call 74 [(T 7), (I 9)]), o 9 (.bin .add (I 1) (T 8)), o 10 (.bin .lss (T 6) (T 9))]),
              (.cond (T 10)
                .skip
                (.exit 0))]),
            (.block 1
              (.reg [o 13 (.mov (T 3)), o 14 (.mov (T 0)), o 15 (.call 74 [(T 14), (I 800)]), o 16 (.bin .sub (T 15) (I 200)), o 17 (.lit 1 1 [(.int .i64 0)] [(0, (T 16))]), o 18 (.append 1 8 (T 13) (T 17)), o 3 (.mov (T 18))])),
            (.reg [o 11 (.mov (T 4)), o 12 (.bin .add (T 11) (I 1)), o 4 (.mov (T 12))])])))]),
    (.reg [o 19 (.mov (T 3)), o 2 (.mov (T 19))]),
    .ret])
theorem ok65 : cfn Tryz.prog Tryz.f65 1 = some (s65, [.tmp 2]) := by kernel_rfl

/-! 67 impl.ProgramOk -/
def s67 : SCode :=
  (sqs [
    (.reg [o 1 (.box 1 (T 0)), o 2 (.mov (B false))]),
    (.reg [o 3 (.fieldAddr 0 (T 1)), o 4 (.load false 1 (T 3)), o 5 (.len (T 4)), o 6 (.call 114 [(T 5), (I 1), (I 6)]), o 7 (.mov (T 6)), og 8 (.fieldAddr 0 (T 1)) 7 true, og 9 (.load false 1 (T 8)) 7 true, og 10 (.call 69 [(T 9), (.val (.fn 131 []))]) 7 true, og 11 (.not (T 10)) 7 true, o 12 (.pick (T 7) (T 11) (B false)), o 2 (.mov (T 12))]),
    .ret])
theorem ok67 : cfn Tryz.prog Tryz.f67 1 = some (s67, [.tmp 2]) := by kernel_rfl

/-! 69 slices.ContainsFunc[[]impl.Task,impl.Task] -/
def s69 : SCode :=
  (sqs [
    (.reg [o 4 (.mov (B false))]),
    (.reg [o 5 (.mov (T 0)), o 6 (.mov (T 1)), o 7 (.call 118 [(T 5), (T 6)]), o 8 (.bin .geq (T 7) (I 0)), o 4 (.mov (T 8))]),
    .ret])
theorem ok69 : cfn Tryz.prog Tryz.f69 2 = some (s69, [.tmp 4]) := by kernel_rfl

/-! 71 impl.bit -/
def s71 : SCode :=
  (sqs [
    (.reg [o 2 (.mov (I 0))]),
    (sqs [
      (.reg [o 3 (.mov (T 0))]),
      (.cond (T 3)
        (sqs [
          (.reg [o 2 (.mov (I 1))]),
          .ret])
        .skip)]),
    (.reg [o 2 (.mov (I 0))]),
    .ret])
theorem ok71 : cfn Tryz.prog Tryz.f71 1 = some (s71, [.tmp 2]) := by kernel_rfl

/-! 72 spec.l22Rigid -/
def s72 : SCode :=
  (sqs [
    (.reg [o 2 (.zero [.nils])]),
    (.reg [o 5 (.mov (T 0)), o 6 (.call 60 [(T 5)]), o 3 (.hole 1), o 3 (.birth 1 (T 3) (T 6))]),
    (sqs [
      (.reg [o 4 (.mov (I 0))]),
      (.block 0
        (.loop
          (sqs [
            (sqs [
              (.reg [o 7 (.mov (T 4)), o 8 (.fieldAddr 0 (T 3)), o 9 (.load false 1 (T 8)), o 10 (.len (T 9)), o 11 (.bin .lss (T 7) (T 10))]),
              (.cond (T 11)
                .skip
                (.exit 0))]),
            (.block 1
              (.regD [o 14 (.fieldAddr 0 (T 3)), ⟨some 15, (.load false 1 (T 14)), none, 1, []⟩, o 16 (.mov (T 4)), o 17 (.mov (T 0)), o 18 (.fieldAddr 0 (T 3)), ⟨some 19, (.load false 1 (T 18)), none, 5, []⟩, o 20 (.len (T 19)), ⟨some 21, (.call 74 [(T 17), (T 20)]), none, 0, [1]⟩, o 22 (.build [(.int .i64 0), (.int .i64 0), (.int .i64 0)] [(0, 1, (I 1)), (1, 1, (T 21))]), o 23 (.idxAddr 4 (T 15) (T 16)), o 24 (.fieldAddr 1 (T 23)), on_ (.store 3 (T 24) (T 22))])),
            (.reg [o 12 (.mov (T 4)), o 13 (.bin .add (T 12) (I 1)), o 4 (.mov (T 13))])])))]),
    (.reg [o 25 (.load true 1 (T 3)), on_ (.store 1 (T 2) (T 25))]),
    .ret])
theorem ok72 : cfn Tryz.prog Tryz.f72 1 = some (s72, [.cell 2 true 1]) := by kernel_rfl

/-! 73 spec.l03Vars -/
def s73 : SCode :=
  (sqs [
    (.reg [o 2 (.mov N)]),
    (.reg [o 5 (.lit 0 1 [(.int .i64 0)] []), o 3 (.mov (T 5))]),
    (sqs [
      (.reg [o 4 (.mov (I 0))]),
      (.block 0
        (.loop
          (sqs [
            (sqs [
              (.reg [o 6 (.mov (T 4)), o 7 (.bin .lss (T 6) (I 8))]),
              (.cond (T 7)
                .skip
                (.exit 0))]),
            (.block 1
              (.reg [o 10 (.mov (T 3)), o 11 (.mov (T 0)), o 12 (.mov (T 0)), o 13 (.call 74 [(T 12), (I 2000)]), o 14 (.bin .sub (T 13) (I 1000)), o 15 (.lit 6 1 [(.int .i64 0)] [(0, (I 0)), (1, (I 1)), (2, (I 2)), (3, (I 5)), (4, (T 14)), (5, (I 1000000))]), o 16 (.call 129 [(T 11), (T 15)]), o 17 (.lit 1 1 [(.int .i64 0)] [(0, (T 16))]), o 18 (.append 1 8 (T 10) (T 17)), o 3 (.mov (T 18))])),
            (.reg [o 8 (.mov (T 4)), o 9 (.bin .add (T 8) (I 1)), o 4 (.mov (T 9))])])))]),
    (.reg [o 19 (.mov (T 3)), o 2 (.mov (T 19))]),
    .ret])
theorem ok73 : cfn Tryz.prog Tryz.f73 1 = some (s73, [.tmp 2]) := by kernel_rfl

/-! 74 spec.l01Below -/
def s74 : SCode :=
  (sqs [
    (.reg [o 4 (.mov (I 0))]),
    (sqs [
      (.reg [o 9 (.mov (T 1)), o 10 (.bin .leq (T 9) (I 0))]),
      (.cond (T 10)
        (sqs [
          (.reg [o 4 (.mov (I 0))]),
          .ret])
        .skip)]),
    (sqs [
      (.reg [o 11 (.mov (T 1)), o 12 (.bin .leq (T 11) (I 256))]),
      (.cond (T 12)
        (sqs [
          (.reg [o 13 (.mov (T 0)), o 14 (.call 132 [(T 13)]), o 15 (.mov (T 1)), o 16 (.bin .rem (T 14) (T 15)), o 4 (.mov (T 16))]),
          .ret])
        .skip)]),
    (.reg [o 17 (.mov (T 0)), o 18 (.call 132 [(T 17)]), o 5 (.mov (T 18))]),
    (.reg [o 19 (.mov (T 0)), o 20 (.call 132 [(T 19)]), o 6 (.mov (T 20))]),
    (.reg [o 21 (.mov (T 0)), o 22 (.call 132 [(T 21)]), o 7 (.mov (T 22))]),
    (.reg [o 23 (.mov (T 0)), o 24 (.call 132 [(T 23)]), o 8 (.mov (T 24))]),
    (.reg [o 25 (.mov (T 5)), o 26 (.bin .mul (T 25) (I 16777216)), o 27 (.mov (T 6)), o 28 (.bin .mul (T 27) (I 65536)), o 29 (.bin .add (T 26) (T 28)), o 30 (.mov (T 7)), o 31 (.bin .mul (T 30) (I 256)), o 32 (.bin .add (T 29) (T 31)), o 33 (.mov (T 8)), o 34 (.bin .add (T 32) (T 33)), o 35 (.mov (T 1)), o 36 (.bin .rem (T 34) (T 35)), o 4 (.mov (T 36))]),
    .ret])
theorem ok74 : cfn Tryz.prog Tryz.f74 2 = some (s74, [.tmp 4]) := by kernel_rfl

/-! 75 impl.BlockOk -/
def s75 : SCode :=
  (sqs [
    (.reg [o 2 (.mov (B false))]),
    (.reg [o 3 (.mov (I 0))]),
    (sqs [
      (.reg [o 6 (.mov (T 0)), o 7 (.len (T 6)), o 8 (.mov (I 0))]),
      (.block 0
        (.loop
          (sqs [
            (.reg [o 9 (.bin .lss (T 8) (T 7))]),
            (.cond (T 9)
              .skip
              (.exit 0)),
            (.block 1
              (sqs [
                (.reg [o 10 (.idxAddr 6 (T 6) (T 8)), o 11 (.load true 6 (T 10)), o 5 (.hole 6), o 5 (.birth 6 (T 5) (T 11))]),
                (sqs [
                  (.reg [o 12 (.load true 6 (T 5)), o 13 (.call 133 [(T 12)]), o 14 (.not (T 13))]),
                  (.cond (T 14)
                    (sqs [
                      (.reg [o 2 (.mov (B false))]),
                      .ret])
                    .skip)]),
                (sqs [
                  (.reg [o 15 (.fieldAddr 0 (T 5)), o 16 (.load false 1 (T 15)), o 17 (.call 134 [(T 16)])]),
                  (.cond (T 17)
                    (.reg [o 18 (.mov (T 3)), o 19 (.bin .add (T 18) (I 1)), o 3 (.mov (T 19))])
                    .skip)]),
                (sqs [
                  (.reg [o 20 (.fieldAddr 0 (T 5)), o 21 (.load false 1 (T 20)), o 22 (.bin .eql (T 21) (I 6))]),
                  (.cond (T 22)
                    (.reg [o 23 (.mov (T 3)), o 24 (.bin .sub (T 23) (I 1)), o 3 (.mov (T 24))])
                    .skip)]),
                (.reg [o 25 (.mov (T 3)), o 26 (.bin .lss (T 25) (I 0)), o 27 (.mov (T 26)), og 28 (.mov (T 3)) 27 false, og 29 (.bin .gtr (T 28) (I 3)) 27 false, o 30 (.pick (T 27) (B true) (T 29))]),
                (.cond (T 30)
                  (sqs [
                    (.reg [o 2 (.mov (B false))]),
                    .ret])
                  .skip)])),
            (.reg [o 31 (.bin .add (T 8) (I 1)), o 8 (.mov (T 31))])])))]),
    (.reg [o 32 (.mov (T 3)), o 33 (.bin .eql (T 32) (I 0)), o 34 (.mov (T 33)), og 35 (.mov (T 0)) 34 true, og 36 (.len (T 35)) 34 true, og 37 (.bin .leq (T 36) (I 24)) 34 true, o 38 (.pick (T 34) (T 37) (B false)), o 2 (.mov (T 38))]),
    .ret])
theorem ok75 : cfn Tryz.prog Tryz.f75 1 = some (s75, [.tmp 2]) := by kernel_rfl

/-! 76 impl.DepthOf -/
def s76 : SCode :=
  (sqs [
    (.reg [o 4 (.mov (I 0))]),
    (sqs [
      (.reg [o 8 (.mov (T 0)), o 9 (.call 75 [(T 8)]), o 10 (.not (T 9)), o 11 (.mov (T 10)), og 12 (.mov (T 1)) 11 false, og 13 (.mov (T 0)) 11 false, og 14 (.len (T 13)) 11 false, og 15 (.bin .sub (T 14) (I 1)) 11 false, og 16 (.call 114 [(T 12), (I 0), (T 15)]) 11 false, og 17 (.not (T 16)) 11 false, o 18 (.pick (T 11) (B true) (T 17))]),
      (.cond (T 18)
        (sqs [
          (.reg [o 4 (.mov (I (-1)))]),
          .ret])
        .skip)]),
    (.reg [o 5 (.mov (I 0))]),
    (sqs [
      (.reg [o 19 (.mov (T 0)), o 20 (.mov (T 1)), o 21 (.slice 6 (T 19) none (some (T 20))), o 22 (.len (T 21)), o 23 (.mov (I 0))]),
      (.block 0
        (.loop
          (sqs [
            (.reg [o 24 (.bin .lss (T 23) (T 22))]),
            (.cond (T 24)
              .skip
              (.exit 0)),
            (.block 1
              (sqs [
                (.reg [o 25 (.idxAddr 6 (T 21) (T 23)), o 26 (.load true 6 (T 25)), o 7 (.hole 6), o 7 (.birth 6 (T 7) (T 26))]),
                (sqs [
                  (.reg [o 27 (.fieldAddr 0 (T 7)), o 28 (.load false 1 (T 27)), o 29 (.call 134 [(T 28)])]),
                  (.cond (T 29)
                    (.reg [o 30 (.mov (T 5)), o 31 (.bin .add (T 30) (I 1)), o 5 (.mov (T 31))])
                    .skip)]),
                (.reg [o 32 (.fieldAddr 0 (T 7)), o 33 (.load false 1 (T 32)), o 34 (.bin .eql (T 33) (I 6))]),
                (.cond (T 34)
                  (.reg [o 35 (.mov (T 5)), o 36 (.bin .sub (T 35) (I 1)), o 5 (.mov (T 36))])
                  .skip)])),
            (.reg [o 37 (.bin .add (T 23) (I 1)), o 23 (.mov (T 37))])])))]),
    (.reg [o 38 (.mov (T 5)), o 4 (.mov (T 38))]),
    .ret])
theorem ok76 : cfn Tryz.prog Tryz.f76 2 = some (s76, [.tmp 4]) := by kernel_rfl

/-! 77 spec.BlockOk -/
def s77 : SCode :=
  (sqs [
    (.reg [o 2 (.mov (B false))]),
    (.reg [o 3 (.mov (I 0))]),
    (sqs [
      (.reg [o 4 (.mov (I 0))]),
      (.block 0
        (.loop
          (sqs [
            (sqs [
              (.reg [o 5 (.mov (T 4)), o 6 (.mov (T 0)), o 7 (.len (T 6)), o 8 (.bin .lss (T 5) (T 7))]),
              (.cond (T 8)
                .skip
                (.exit 0))]),
            (.block 1
              (sqs [
                (sqs [
                  (.reg [o 11 (.mov (T 0)), o 12 (.mov (T 4)), o 13 (.idxAddr 6 (T 11) (T 12)), o 14 (.load true 6 (T 13)), o 15 (.call 135 [(T 14)]), o 16 (.not (T 15))]),
                  (.cond (T 16)
                    (sqs [
                      (.reg [o 2 (.mov (B false))]),
                      .ret])
                    .skip)]),
                (sqs [
                  (.reg [o 17 (.mov (T 0)), o 18 (.mov (T 4)), o 19 (.idxAddr 6 (T 17) (T 18)), o 20 (.fieldAddr 0 (T 19)), o 21 (.load false 1 (T 20))]),
                  (.block 2
                    (sqs [
                      (sqs [
                        (.reg [o 23 (.bin .eql (T 21) (I 4)), o 22 (.mov (T 23))]),
                        (.cond (T 22)
                          .skip
                          (.reg [o 24 (.bin .eql (T 21) (I 5)), o 22 (.mov (T 24))]))]),
                      (.cond (T 22)
                        (.reg [o 25 (.mov (T 3)), o 26 (.bin .add (T 25) (I 1)), o 3 (.mov (T 26))])
                        (sqs [
                          (.reg [o 28 (.bin .eql (T 21) (I 6)), o 27 (.mov (T 28))]),
                          (.cond (T 27)
                            (.reg [o 29 (.mov (T 3)), o 30 (.bin .sub (T 29) (I 1)), o 3 (.mov (T 30))])
                            .skip)]))]))]),
                (.reg [o 31 (.mov (T 3)), o 32 (.call 99 [(T 31), (I 0), (I 3)]), o 33 (.not (T 32))]),
                (.cond (T 33)
                  (sqs [
                    (.reg [o 2 (.mov (B false))]),
                    .ret])
                  .skip)])),
            (.reg [o 9 (.mov (T 4)), o 10 (.bin .add (T 9) (I 1)), o 4 (.mov (T 10))])])))]),
    (.reg [o 34 (.mov (T 3)), o 35 (.bin .eql (T 34) (I 0)), o 36 (.mov (T 35)), og 37 (.mov (T 0)) 36 true, og 38 (.len (T 37)) 36 true, og 39 (.bin .leq (T 38) (I 24)) 36 true, o 40 (.pick (T 36) (T 39) (B false)), o 2 (.mov (T 40))]),
    .ret])
theorem ok77 : cfn Tryz.prog Tryz.f77 1 = some (s77, [.tmp 2]) := by kernel_rfl

/-! 78 spec.DepthOf -/
def s78 : SCode :=
  (sqs [
    (.reg [o 4 (.mov (I 0))]),
    (sqs [
      (.reg [o 7 (.mov (T 0)), o 8 (.call 77 [(T 7)]), o 9 (.not (T 8)), o 10 (.mov (T 9)), og 11 (.mov (T 1)) 10 false, og 12 (.mov (T 0)) 10 false, og 13 (.len (T 12)) 10 false, og 14 (.bin .sub (T 13) (I 1)) 10 false, og 15 (.call 99 [(T 11), (I 0), (T 14)]) 10 false, og 16 (.not (T 15)) 10 false, o 17 (.pick (T 10) (B true) (T 16))]),
      (.cond (T 17)
        (sqs [
          (.reg [o 4 (.mov (I (-1)))]),
          .ret])
        .skip)]),
    (.reg [o 5 (.mov (I 0))]),
    (sqs [
      (.reg [o 6 (.mov (I 0))]),
      (.block 0
        (.loop
          (sqs [
            (sqs [
              (.reg [o 18 (.mov (T 6)), o 19 (.mov (T 1)), o 20 (.bin .lss (T 18) (T 19))]),
              (.cond (T 20)
                .skip
                (.exit 0))]),
            (.block 1
              (sqs [
                (.reg [o 23 (.mov (T 0)), o 24 (.mov (T 6)), o 25 (.idxAddr 6 (T 23) (T 24)), o 26 (.load true 6 (T 25)), o 27 (.call 136 [(T 26)]), o 28 (.mov (T 27)), og 29 (.mov (T 0)) 28 true, og 30 (.mov (T 6)) 28 true, og 31 (.call 137 [(T 29), (T 30)]) 28 true, og 32 (.mov (T 1)) 28 true, og 33 (.bin .geq (T 31) (T 32)) 28 true, o 34 (.pick (T 28) (T 33) (B false))]),
                (.cond (T 34)
                  (.reg [o 35 (.mov (T 5)), o 36 (.bin .add (T 35) (I 1)), o 5 (.mov (T 36))])
                  .skip)])),
            (.reg [o 21 (.mov (T 6)), o 22 (.bin .add (T 21) (I 1)), o 6 (.mov (T 22))])])))]),
    (.reg [o 37 (.mov (T 5)), o 4 (.mov (T 37))]),
    .ret])
theorem ok78 : cfn Tryz.prog Tryz.f78 2 = some (s78, [.tmp 4]) := by kernel_rfl

/-! 79 impl.hasTask -/
def s79 : SCode :=
  (sqs [
    (.reg [o 2 (.box 1 (T 0)), o 4 (.mov (B false))]),
    (.reg [o 5 (.load true 1 (T 2)), o 6 (.call 67 [(T 5)]), o 7 (.mov (T 6)), og 8 (.mov (T 1)) 7 true, og 9 (.fieldAddr 0 (T 2)) 7 true, og 10 (.load false 1 (T 9)) 7 true, og 11 (.len (T 10)) 7 true, og 12 (.bin .sub (T 11) (I 1)) 7 true, og 13 (.call 114 [(T 8), (I 0), (T 12)]) 7 true, o 14 (.pick (T 7) (T 13) (B false)), o 4 (.mov (T 14))]),
    .ret])
theorem ok79 : cfn Tryz.prog Tryz.f79 2 = some (s79, [.tmp 4]) := by kernel_rfl

/-! 80 slices.Contains[[]int,int] -/
def s80 : SCode :=
  (sqs [
    (.reg [o 4 (.mov (B false))]),
    (.reg [o 5 (.mov (T 0)), o 6 (.mov (T 1)), o 7 (.call 138 [(T 5), (T 6)]), o 8 (.bin .geq (T 7) (I 0)), o 4 (.mov (T 8))]),
    .ret])
theorem ok80 : cfn Tryz.prog Tryz.f80 2 = some (s80, [.tmp 4]) := by kernel_rfl

/-! 81 impl.IsRigid -/
def s81 : SCode :=
  (sqs [
    (.reg [o 1 (.box 1 (T 0)), o 2 (.mov (B false))]),
    (.reg [o 4 (.make 1 8 [(.int .i64 0)] (I 8)), o 3 (.hole 1), o 3 (.birth 1 (T 3) (T 4))]),
    (.reg [o 5 (.load true 1 (T 1)), o 6 (.call 67 [(T 5)]), o 7 (.mov (T 6)), og 8 (.fieldAddr 0 (T 1)) 7 true, og 9 (.load false 1 (T 8)) 7 true, og 10 (.mkfn 139 [(T 3), (T 1)]) 7 true, og 11 (.call 69 [(T 9), (T 10)]) 7 true, og 12 (.not (T 11)) 7 true, o 13 (.pick (T 7) (T 12) (B false)), o 2 (.mov (T 13))]),
    .ret])
theorem ok81 : cfn Tryz.prog Tryz.f81 1 = some (s81, [.tmp 2]) := by kernel_rfl

/-! 82 impl.copyProgram -/
def s82 : SCode :=
  (sqs [
    (.reg [o 1 (.box 1 (T 0)), o 2 (.zero [.nils])]),
    (.reg [o 6 (.build [.nils] []), o 3 (.hole 1), o 3 (.birth 1 (T 3) (T 6))]),
    (sqs [
      (.reg [o 7 (.fieldAddr 0 (T 1)), o 8 (.load false 1 (T 7)), o 9 (.len (T 8)), o 10 (.mov (I 0))]),
      (.block 0
        (.loop
          (sqs [
            (.reg [o 11 (.bin .lss (T 10) (T 9))]),
            (.cond (T 11)
              .skip
              (.exit 0)),
            (.block 1
              (sqs [
                (.reg [o 12 (.idxAddr 4 (T 8) (T 10)), o 13 (.load true 4 (T 12)), o 5 (.hole 4), o 5 (.birth 4 (T 5) (T 13))]),
                (.regD [o 14 (.fieldAddr 0 (T 3)), ⟨some 15, (.load false 1 (T 14)), none, 1, []⟩, ⟨some 16, (.load true 4 (T 5)), none, 2, []⟩, ⟨some 17, (.call 142 [(T 16)]), none, 0, [1]⟩, ⟨some 18, (.lit 1 4 [.nils, (.int .i64 0), (.int .i64 0), (.int .i64 0)] [(0, (T 17))]), none, 0, [1]⟩, o 19 (.append 4 48 (T 15) (T 18)), o 20 (.fieldAddr 0 (T 3)), on_ (.store 1 (T 20) (T 19))])])),
            (.reg [o 21 (.bin .add (T 10) (I 1)), o 10 (.mov (T 21))])])))]),
    (.reg [o 22 (.load true 1 (T 3)), on_ (.store 1 (T 2) (T 22))]),
    .ret])
theorem ok82 : cfn Tryz.prog Tryz.f82 1 = some (s82, [.cell 2 true 1]) := by kernel_rfl

/-! 83 impl.split -/
def s83 : SCode :=
  (sqs [
    (.reg [o 3 (.box 1 (T 0)), o 6 (.zero [.nils])]),
    (.reg [o 10 (.load true 1 (T 3)), o 11 (.call 82 [(T 10)]), o 7 (.hole 1), o 7 (.birth 1 (T 7) (T 11))]),
    (.reg [o 12 (.fieldAddr 0 (T 7)), o 13 (.load false 1 (T 12)), o 14 (.mov (T 1)), o 15 (.idxAddr 4 (T 13) (T 14)), o 16 (.load true 4 (T 15)), o 8 (.hole 4), o 8 (.birth 4 (T 8) (T 16))]),
    (.regD [o 17 (.fieldAddr 0 (T 8)), ⟨some 18, (.load false 1 (T 17)), none, 1, []⟩, o 19 (.mov (T 2)), o 20 (.slice 6 (T 18) (some (T 19)) none), o 22 (.fieldAddr 1 (T 8)), ⟨some 23, (.load true 3 (T 22)), none, 6, []⟩, o 9 (.hole 4), ⟨some 21, (.call 143 [(T 20)]), none, 0, [6]⟩, o 24 (.build [.nils, (.int .i64 0), (.int .i64 0), (.int .i64 0)] [(0, 1, (T 21)), (1, 3, (T 23))]), o 9 (.birth 4 (T 9) (T 24))]),
    (.regD [o 25 (.fieldAddr 0 (T 7)), ⟨some 26, (.load false 1 (T 25)), none, 1, []⟩, o 27 (.mov (T 1)), o 28 (.fieldAddr 0 (T 8)), ⟨some 29, (.load false 1 (T 28)), none, 4, []⟩, o 30 (.mov (T 2)), o 31 (.slice 6 (T 29) none (some (T 30))), o 33 (.fieldAddr 0 (T 3)), ⟨some 34, (.load false 1 (T 33)), none, 9, []⟩, o 35 (.len (T 34)), o 36 (.build [(.int .i64 0), (.int .i64 0), (.int .i64 0)] [(0, 1, (I 1)), (1, 1, (T 35))]), ⟨some 32, (.call 143 [(T 31)]), none, 0, [1, 9]⟩, o 37 (.build [.nils, (.int .i64 0), (.int .i64 0), (.int .i64 0)] [(0, 1, (T 32)), (1, 3, (T 36))]), o 38 (.idxAddr 4 (T 26) (T 27)), on_ (.store 4 (T 38) (T 37))]),
    (.reg [o 39 (.fieldAddr 0 (T 7)), o 40 (.load false 1 (T 39)), o 41 (.load true 4 (T 9)), o 42 (.lit 1 4 [.nils, (.int .i64 0), (.int .i64 0), (.int .i64 0)] [(0, (T 41))]), o 43 (.append 4 48 (T 40) (T 42)), o 44 (.fieldAddr 0 (T 7)), on_ (.store 1 (T 44) (T 43))]),
    (.reg [o 45 (.load true 1 (T 7)), on_ (.store 1 (T 6) (T 45))]),
    .ret])
theorem ok83 : cfn Tryz.prog Tryz.f83 3 = some (s83, [.cell 6 true 1]) := by kernel_rfl

/-! 84 impl.VarsOk -/
def s84 : SCode :=
  (sqs [
    (.reg [o 2 (.mov (B false))]),
    (.reg [o 3 (.mov (T 0)), o 4 (.len (T 3)), o 5 (.bin .eql (T 4) (I 8)), o 6 (.mov (T 5)), og 7 (.mov (T 0)) 6 true, og 8 (.call 85 [(T 7)]) 6 true, o 9 (.pick (T 6) (T 8) (B false)), o 2 (.mov (T 9))]),
    .ret])
theorem ok84 : cfn Tryz.prog Tryz.f84 1 = some (s84, [.tmp 2]) := by kernel_rfl

/-! 85 impl.areValues -/
def s85 : SCode :=
  (sqs [
    (.reg [o 2 (.mov (B false))]),
    (.reg [o 3 (.mov (T 0)), o 4 (.call 112 [(T 3), (.val (.fn 144 []))]), o 5 (.not (T 4)), o 2 (.mov (T 5))]),
    .ret])
theorem ok85 : cfn Tryz.prog Tryz.f85 1 = some (s85, [.tmp 2]) := by kernel_rfl

/-! 86 impl.effect -/
def s86 : SCode :=
  (sqs [
    (.reg [o 4 (.box 1 (T 0)), o 7 (.box 1 (T 3)), o 8 (.zero [.nils, .nils, (.int .i64 0), (.int .i64 0)])]),
    (.reg [o 10 (.mov (T 2)), o 11 (.call 115 [(T 10)]), o 12 (.build [.nils, .nils, (.int .i64 0), (.int .i64 0)] [(0, 1, (T 11))]), o 9 (.hole 4), o 9 (.birth 4 (T 9) (T 12))]),
    (.reg [o 13 (.fieldAddr 0 (T 4)), o 14 (.load false 1 (T 13)), o 15 (.mov (T 1)), o 16 (.idxAddr 4 (T 14) (T 15)), o 17 (.fieldAddr 0 (T 16)), o 18 (.load false 1 (T 17)), o 19 (.mkfn 147 [(T 7), (T 9)]), o 20 (.call 146 [(T 18), (T 19)])]),
    (.reg [o 21 (.load true 1 (T 4)), o 22 (.fieldAddr 0 (T 9)), o 23 (.load false 1 (T 22)), o 24 (.mov (T 1)), o 25 (.call 148 [(T 21), (T 23), (T 24)]), o 26 (.fieldAddr 2 (T 9)), on_ (.store 1 (T 26) (T 25))]),
    (.reg [o 27 (.load true 4 (T 9)), on_ (.store 4 (T 8) (T 27))]),
    .ret])
theorem ok86 : cfn Tryz.prog Tryz.f86 4 = some (s86, [.cell 8 true 4]) := by kernel_rfl

/-! 87 impl.TaskEffect$1 -/
def s87 : SCode :=
  (sqs [
    (.reg [o 5 (.mov (I 0))]),
    (.reg [o 6 (.load false 1 (T 2)), o 7 (.mov (T 0)), o 8 (.call 88 [(T 6), (T 7)]), o 5 (.mov (T 8))]),
    .ret])
theorem ok87 : cfn Tryz.prog Tryz.f87 3 = some (s87, [.tmp 5]) := by kernel_rfl

/-! 88 impl.usedAt -/
def s88 : SCode :=
  (sqs [
    (.reg [o 4 (.mov (I 0))]),
    (sqs [
      (.reg [o 5 (.mov (T 1)), o 6 (.mov (T 0)), o 7 (.len (T 6)), o 8 (.bin .geq (T 5) (T 7))]),
      (.cond (T 8)
        (sqs [
          (.reg [o 4 (.mov (I 0))]),
          .ret])
        .skip)]),
    (.reg [o 9 (.mov (T 0)), o 10 (.mov (T 1)), o 11 (.idxAddr 1 (T 9) (T 10)), o 12 (.load false 1 (T 11)), o 4 (.mov (T 12))]),
    .ret])
theorem ok88 : cfn Tryz.prog Tryz.f88 2 = some (s88, [.tmp 4]) := by kernel_rfl

/-! 93 impl.taskOk -/
def s93 : SCode :=
  (sqs [
    (.reg [o 1 (.box 4 (T 0)), o 2 (.mov (B false))]),
    (.reg [o 3 (.fieldAddr 0 (T 1)), o 4 (.load false 1 (T 3)), o 5 (.call 75 [(T 4)]), o 6 (.mov (T 5)), og 7 (.fieldAddr 1 (T 1)) 6 true, og 8 (.load true 3 (T 7)) 6 true, og 9 (.call 160 [(T 8)]) 6 true, o 10 (.pick (T 6) (T 9) (B false)), o 2 (.mov (T 10))]),
    .ret])
theorem ok93 : cfn Tryz.prog Tryz.f93 1 = some (s93, [.tmp 2]) := by kernel_rfl

/-! 99 spec.l01In -/
def s99 : SCode :=
  (sqs [
    (.reg [o 6 (.mov (B false))]),
    (.reg [o 7 (.mov (T 0)), o 8 (.mov (T 1)), o 9 (.bin .geq (T 7) (T 8)), o 10 (.mov (T 9)), og 11 (.mov (T 0)) 10 true, og 12 (.mov (T 2)) 10 true, og 13 (.bin .leq (T 11) (T 12)) 10 true, o 14 (.pick (T 10) (T 13) (B false)), o 6 (.mov (T 14))]),
    .ret])
theorem ok99 : cfn Tryz.prog Tryz.f99 3 = some (s99, [.tmp 6]) := by kernel_rfl

/-! 112 slices.ContainsFunc[[]int,int] -/
def s112 : SCode :=
  (sqs [
    (.reg [o 4 (.mov (B false))]),
    (.reg [o 5 (.mov (T 0)), o 6 (.mov (T 1)), o 7 (.call 179 [(T 5), (T 6)]), o 8 (.bin .geq (T 7) (I 0)), o 4 (.mov (T 8))]),
    .ret])
theorem ok112 : cfn Tryz.prog Tryz.f112 2 = some (s112, [.tmp 4]) := by kernel_rfl

/-! 114 impl.within -/
def s114 : SCode :=
  (sqs [
    (.reg [o 6 (.mov (B false))]),
    (.reg [o 7 (.mov (T 0)), o 8 (.mov (T 1)), o 9 (.bin .geq (T 7) (T 8)), o 10 (.mov (T 9)), og 11 (.mov (T 0)) 10 true, og 12 (.mov (T 2)) 10 true, og 13 (.bin .leq (T 11) (T 12)) 10 true, o 14 (.pick (T 10) (T 13) (B false)), o 6 (.mov (T 14))]),
    .ret])
theorem ok114 : cfn Tryz.prog Tryz.f114 3 = some (s114, [.tmp 6]) := by kernel_rfl

/-! 115 slices.Clone[[]int,int] -/
def s115 : SCode :=
  (sqs [
    (.reg [o 2 (.mov N)]),
    (sqs [
      (.reg [o 3 (.mov (T 0)), o 4 (.isnil 27 false (T 3))]),
      (.cond (T 4)
        (sqs [
          (.reg [o 2 (.mov N)]),
          .ret])
        .skip)]),
    (.reg [o 5 (.lit 0 1 [(.int .i64 0)] []), o 6 (.mov (T 0)), o 7 (.append 1 8 (T 5) (T 6)), o 2 (.mov (T 7))]),
    .ret])
theorem ok115 : cfn Tryz.prog Tryz.f115 1 = some (s115, [.tmp 2]) := by kernel_rfl

/-! 118 slices.IndexFunc[[]impl.Task,impl.Task] -/
def s118 : SCode :=
  (sqs [
    (.reg [o 4 (.mov (I 0))]),
    (sqs [
      (.reg [o 6 (.mov (T 0)), o 7 (.len (T 6)), o 8 (.mov (I 0))]),
      (.block 0
        (.loop
          (sqs [
            (.reg [o 9 (.bin .lss (T 8) (T 7))]),
            (.cond (T 9)
              .skip
              (.exit 0)),
            (.block 1
              (sqs [
                (.reg [o 10 (.mov (T 8)), o 5 (.mov (T 10))]),
                (.reg [o 11 (.mov (T 1)), o 12 (.mov (T 0)), o 13 (.mov (T 5)), o 14 (.idxAddr 4 (T 12) (T 13)), o 15 (.load true 4 (T 14)), o 16 (.callv (T 11) [(T 15)])]),
                (.cond (T 16)
                  (sqs [
                    (.reg [o 17 (.mov (T 5)), o 4 (.mov (T 17))]),
                    .ret])
                  .skip)])),
            (.reg [o 18 (.bin .add (T 8) (I 1)), o 8 (.mov (T 18))])])))]),
    (.reg [o 4 (.mov (I (-1)))]),
    .ret])
theorem ok118 : cfn Tryz.prog Tryz.f118 2 = some (s118, [.tmp 4]) := by kernel_rfl

/-! 126 spec.l05Case -/
def s126 : SCode :=
  (sqs [
    (.reg [o 2 (.mov N)]),
    (.reg [o 3 (.mov (T 0)), o 4 (.mov (T 0)), o 5 (.call 74 [(T 4), (I 6)]), o 6 (.call 185 [(T 3), (T 5), (I 0)]), o 2 (.mov (T 6))]),
    .ret])
theorem ok126 : cfn Tryz.prog Tryz.f126 1 = some (s126, [.tmp 2]) := by kernel_rfl

/-! 127 spec.l03Expr -/
def s127 : SCode :=
  (sqs [
    (.reg [o 2 (.zero [(.int .i64 0), (.int .i64 0), (.int .i64 0)])]),
    (.reg [o 3 (.mov (T 0)), o 4 (.call 74 [(T 3), (I 7)]), o 5 (.bin .add (I 1) (T 4)), o 6 (.mov (T 0)), o 7 (.call 186 [(T 6)]), o 8 (.mov (T 0)), o 9 (.call 186 [(T 8)]), o 10 (.build [(.int .i64 0), (.int .i64 0), (.int .i64 0)] [(0, 1, (T 5)), (1, 1, (T 7)), (2, 1, (T 9))]), on_ (.store 3 (T 2) (T 10))]),
    .ret])
theorem ok127 : cfn Tryz.prog Tryz.f127 1 = some (s127, [.cell 2 true 3]) := by kernel_rfl

/-! 129 spec.l01PickInt -/
def s129 : SCode :=
  (sqs [
    (.reg [o 4 (.mov (I 0))]),
    (.reg [o 5 (.mov (T 1)), o 6 (.mov (T 0)), o 7 (.mov (T 1)), o 8 (.len (T 7)), o 9 (.call 74 [(T 6), (T 8)]), o 10 (.idxAddr 1 (T 5) (T 9)), o 11 (.load false 1 (T 10)), o 4 (.mov (T 11))]),
    .ret])
theorem ok129 : cfn Tryz.prog Tryz.f129 2 = some (s129, [.tmp 4]) := by kernel_rfl

/-! 131 impl.ProgramOk$1 -/
def s131 : SCode :=
  (sqs [
    (.reg [o 1 (.box 4 (T 0)), o 2 (.mov (B false))]),
    (.reg [o 3 (.load true 4 (T 1)), o 4 (.call 93 [(T 3)]), o 5 (.not (T 4)), o 2 (.mov (T 5))]),
    .ret])
theorem ok131 : cfn Tryz.prog Tryz.f131 1 = some (s131, [.tmp 2]) := by kernel_rfl

/-! 132 spec.l01Byte -/
def s132 : SCode :=
  (sqs [
    (.reg [o 2 (.mov (I 0))]),
    (.reg [o 4 (.mov (T 0)), o 5 (.mov (T 0)), o 6 (.nilchk (T 5)), o 7 (.fieldAddr 2 (T 6)), o 8 (.load false 1 (T 7)), o 9 (.bin .mul (T 8) (I 6364136223846793005)), o 10 (.bin .add (T 9) (I 1442695040888963407)), o 11 (.nilchk (T 4)), o 12 (.fieldAddr 2 (T 11)), on_ (.store 1 (T 12) (T 10))]),
    (.regD [o 13 (.mov (T 0)), o 14 (.nilchk (T 13)), o 15 (.fieldAddr 2 (T 14)), ⟨some 16, (.load false 1 (T 15)), none, 3, []⟩, o 17 (.bin .shr (T 16) (.val (.int .u64 33))), o 18 (.mov (T 0)), o 19 (.nilchk (T 18)), o 20 (.fieldAddr 2 (T 19)), ⟨some 21, (.load false 1 (T 20)), none, 8, []⟩, o 22 (.bin .shr (T 21) (.val (.int .u64 45))), o 23 (.bin .xor (T 17) (T 22)), o 24 (.bin .and (T 23) (I 255)), o 3 (.mov (T 24))]),
    (sqs [
      (.regD [o 25 (.mov (T 0)), o 26 (.nilchk (T 25)), o 27 (.fieldAddr 1 (T 26)), ⟨some 28, (.load false 1 (T 27)), none, 3, []⟩, o 29 (.mov (T 0)), o 30 (.nilchk (T 29)), o 31 (.fieldAddr 0 (T 30)), ⟨some 32, (.load false 1 (T 31)), none, 7, []⟩, o 33 (.len (T 32)), o 34 (.bin .lss (T 28) (T 33))]),
      (.cond (T 34)
        (sqs [
          (.regD [o 35 (.mov (T 3)), o 36 (.mov (T 0)), o 37 (.nilchk (T 36)), o 38 (.fieldAddr 0 (T 37)), ⟨some 39, (.load false 1 (T 38)), none, 4, []⟩, o 40 (.mov (T 0)), o 41 (.nilchk (T 40)), o 42 (.fieldAddr 1 (T 41)), ⟨some 43, (.load false 1 (T 42)), none, 8, []⟩, o 44 (.idxAddr 1 (T 39) (T 43)), ⟨some 45, (.load false 1 (T 44)), none, 10, []⟩, o 46 (.conv .i64 (T 45)), o 47 (.bin .add (T 35) (T 46)), o 48 (.bin .and (T 47) (I 255)), o 3 (.mov (T 48))]),
          (.reg [o 49 (.mov (T 0)), o 50 (.mov (T 0)), o 51 (.nilchk (T 50)), o 52 (.fieldAddr 1 (T 51)), o 53 (.load false 1 (T 52)), o 54 (.bin .add (T 53) (I 1)), o 55 (.nilchk (T 49)), o 56 (.fieldAddr 1 (T 55)), on_ (.store 1 (T 56) (T 54))])])
        .skip)]),
    (.reg [o 57 (.mov (T 3)), o 2 (.mov (T 57))]),
    .ret])
theorem ok132 : cfn Tryz.prog Tryz.f132 1 = some (s132, [.tmp 2]) := by kernel_rfl

/-! 133 impl.StmtOk -/
def s133 : SCode :=
  (sqs [
    (.reg [o 1 (.box 6 (T 0)), o 2 (.mov (B false))]),
    (sqs [
      (.reg [o 3 (.fieldAddr 0 (T 1)), o 4 (.load false 1 (T 3)), o 5 (.call 114 [(T 4), (I 1), (I 6)]), o 6 (.not (T 5)), o 7 (.mov (T 6)), og 8 (.fieldAddr 0 (T 1)) 7 false, og 9 (.load false 1 (T 8)) 7 false, og 10 (.call 190 [(T 9)]) 7 false, og 11 (.mov (T 10)) 7 false, og 12 (.fieldAddr 1 (T 1)) 11 true, og 13 (.load false 1 (T 12)) 11 true, og 14 (.call 150 [(T 13)]) 11 true, og 15 (.not (T 14)) 11 true, og 16 (.pick (T 11) (T 15) (B false)) 7 false, o 17 (.pick (T 7) (B true) (T 16)), o 18 (.mov (T 17)), og 19 (.fieldAddr 0 (T 1)) 18 false, og 20 (.load false 1 (T 19)) 18 false, og 21 (.call 190 [(T 20)]) 18 false, og 22 (.not (T 21)) 18 false, og 23 (.mov (T 22)) 18 false, og 24 (.fieldAddr 1 (T 1)) 23 true, og 25 (.load false 1 (T 24)) 23 true, og 26 (.bin .neq (T 25) (I 0)) 23 true, og 27 (.pick (T 23) (T 26) (B false)) 18 false, o 28 (.pick (T 18) (B true) (T 27))]),
      (.cond (T 28)
        (sqs [
          (.reg [o 2 (.mov (B false))]),
          .ret])
        .skip)]),
    (sqs [
      (.reg [o 29 (.fieldAddr 0 (T 1)), o 30 (.load false 1 (T 29)), o 31 (.call 191 [(T 30)]), o 32 (.mov (T 31)), og 33 (.fieldAddr 3 (T 1)) 32 true, og 34 (.load true 3 (T 33)) 32 true, og 35 (.call 160 [(T 34)]) 32 true, og 36 (.not (T 35)) 32 true, o 37 (.pick (T 32) (T 36) (B false)), o 38 (.mov (T 37)), og 39 (.fieldAddr 0 (T 1)) 38 false, og 40 (.load false 1 (T 39)) 38 false, og 41 (.call 191 [(T 40)]) 38 false, og 42 (.not (T 41)) 38 false, og 43 (.mov (T 42)) 38 false, og 44 (.fieldAddr 3 (T 1)) 43 true, og 45 (.load true 3 (T 44)) 43 true, og 46 (.build [(.int .i64 0), (.int .i64 0), (.int .i64 0)] []) 43 true, og 47 (.eqs 46 true (T 45) (T 46)) 43 true, og 48 (.pick (T 43) (T 47) (B false)) 38 false, o 49 (.pick (T 38) (B true) (T 48))]),
      (.cond (T 49)
        (sqs [
          (.reg [o 2 (.mov (B false))]),
          .ret])
        .skip)]),
    (sqs [
      (.reg [o 50 (.fieldAddr 0 (T 1)), o 51 (.load false 1 (T 50))]),
      (.block 0
        (sqs [
          (.reg [o 53 (.bin .eql (T 51) (I 2)), o 52 (.mov (T 53))]),
          (.cond (T 52)
            (sqs [
              (.reg [o 54 (.fieldAddr 2 (T 1)), o 55 (.load false 1 (T 54)), o 56 (.call 192 [(T 55)]), o 2 (.mov (T 56))]),
              .ret])
            (sqs [
              (.reg [o 58 (.bin .eql (T 51) (I 5)), o 57 (.mov (T 58))]),
              (.cond (T 57)
                (sqs [
                  (.reg [o 59 (.fieldAddr 2 (T 1)), o 60 (.load false 1 (T 59)), o 61 (.call 114 [(T 60), (I 1), (I 5)]), o 2 (.mov (T 61))]),
                  .ret])
                .skip)]))]))]),
    (.reg [o 62 (.fieldAddr 2 (T 1)), o 63 (.load false 1 (T 62)), o 64 (.bin .eql (T 63) (I 0)), o 2 (.mov (T 64))]),
    .ret])
theorem ok133 : cfn Tryz.prog Tryz.f133 1 = some (s133, [.tmp 2]) := by kernel_rfl

/-! 134 impl.isOpening -/
def s134 : SCode :=
  (sqs [
    (.reg [o 2 (.mov (B false))]),
    (.reg [o 3 (.mov (T 0)), o 4 (.bin .eql (T 3) (I 4)), o 5 (.mov (T 4)), og 6 (.mov (T 0)) 5 false, og 7 (.bin .eql (T 6) (I 5)) 5 false, o 8 (.pick (T 5) (B true) (T 7)), o 2 (.mov (T 8))]),
    .ret])
theorem ok134 : cfn Tryz.prog Tryz.f134 1 = some (s134, [.tmp 2]) := by kernel_rfl

/-! 135 spec.StmtOk -/
def s135 : SCode :=
  (sqs [
    (.reg [o 1 (.box 6 (T 0)), o 2 (.mov (B false))]),
    (sqs [
      (.regD [o 3 (.load true 6 (T 1)), ⟨some 4, (.load true 6 (T 1)), none, 1, []⟩, ⟨some 5, (.call 193 [(T 4)]), none, 0, [0]⟩, o 6 (.eqs 109 true (T 3) (T 5))]),
      (.cond (T 6)
        (sqs [
          (.reg [o 2 (.mov (B false))]),
          .ret])
        .skip)]),
    (sqs [
      (.reg [o 7 (.fieldAddr 0 (T 1)), o 8 (.load false 1 (T 7))]),
      (.block 0
        (sqs [
          (.reg [o 10 (.bin .eql (T 8) (I 1)), o 9 (.mov (T 10))]),
          (.cond (T 9)
            (sqs [
              (.reg [o 11 (.fieldAddr 1 (T 1)), o 12 (.load false 1 (T 11)), o 13 (.call 99 [(T 12), (I 0), (I 7)]), o 14 (.mov (T 13)), og 15 (.fieldAddr 3 (T 1)) 14 true, og 16 (.load true 3 (T 15)) 14 true, og 17 (.call 174 [(T 16)]) 14 true, o 18 (.pick (T 14) (T 17) (B false)), o 2 (.mov (T 18))]),
              .ret])
            (sqs [
              (.reg [o 20 (.bin .eql (T 8) (I 2)), o 19 (.mov (T 20))]),
              (.cond (T 19)
                (sqs [
                  (.reg [o 21 (.fieldAddr 1 (T 1)), o 22 (.load false 1 (T 21)), o 23 (.call 99 [(T 22), (I 0), (I 7)]), o 24 (.mov (T 23)), og 25 (.fieldAddr 2 (T 1)) 24 true, og 26 (.load false 1 (T 25)) 24 true, og 27 (.call 99 [(T 26), (I 0), (I 3)]) 24 true, o 28 (.pick (T 24) (T 27) (B false)), o 2 (.mov (T 28))]),
                  .ret])
                (sqs [
                  (sqs [
                    (.reg [o 30 (.bin .eql (T 8) (I 3)), o 29 (.mov (T 30))]),
                    (.cond (T 29)
                      .skip
                      (.reg [o 31 (.bin .eql (T 8) (I 4)), o 29 (.mov (T 31))]))]),
                  (.cond (T 29)
                    (sqs [
                      (.reg [o 32 (.fieldAddr 3 (T 1)), o 33 (.load true 3 (T 32)), o 34 (.call 174 [(T 33)]), o 2 (.mov (T 34))]),
                      .ret])
                    (sqs [
                      (.reg [o 36 (.bin .eql (T 8) (I 5)), o 35 (.mov (T 36))]),
                      (.cond (T 35)
                        (sqs [
                          (.reg [o 37 (.fieldAddr 2 (T 1)), o 38 (.load false 1 (T 37)), o 39 (.call 99 [(T 38), (I 1), (I 5)]), o 2 (.mov (T 39))]),
                          .ret])
                        .skip)]))]))]))]))]),
    (.reg [o 40 (.fieldAddr 0 (T 1)), o 41 (.load false 1 (T 40)), o 42 (.bin .eql (T 41) (I 6)), o 2 (.mov (T 42))]),
    .ret])
theorem ok135 : cfn Tryz.prog Tryz.f135 1 = some (s135, [.tmp 2]) := by kernel_rfl

/-! 136 spec.l05Opens -/
def s136 : SCode :=
  (sqs [
    (.reg [o 1 (.box 6 (T 0)), o 2 (.mov (B false))]),
    (.reg [o 3 (.fieldAddr 0 (T 1)), o 4 (.load false 1 (T 3)), o 5 (.bin .eql (T 4) (I 4)), o 6 (.mov (T 5)), og 7 (.fieldAddr 0 (T 1)) 6 false, og 8 (.load false 1 (T 7)) 6 false, og 9 (.bin .eql (T 8) (I 5)) 6 false, o 10 (.pick (T 6) (B true) (T 9)), o 2 (.mov (T 10))]),
    .ret])
theorem ok136 : cfn Tryz.prog Tryz.f136 1 = some (s136, [.tmp 2]) := by kernel_rfl

/-! 137 spec.l05End -/
def s137 : SCode :=
  (sqs [
    (.reg [o 4 (.mov (I 0))]),
    (.reg [o 5 (.mov (I 0))]),
    (sqs [
      (.reg [o 7 (.mov (T 1)), o 6 (.mov (T 7))]),
      (.block 0
        (.loop
          (sqs [
            (sqs [
              (.reg [o 8 (.mov (T 6)), o 9 (.mov (T 0)), o 10 (.len (T 9)), o 11 (.bin .lss (T 8) (T 10))]),
              (.cond (T 11)
                .skip
                (.exit 0))]),
            (.block 1
              (sqs [
                (sqs [
                  (.reg [o 14 (.mov (T 0)), o 15 (.mov (T 6)), o 16 (.idxAddr 6 (T 14) (T 15)), o 17 (.load true 6 (T 16)), o 18 (.call 136 [(T 17)])]),
                  (.cond (T 18)
                    (.reg [o 19 (.mov (T 5)), o 20 (.bin .add (T 19) (I 1)), o 5 (.mov (T 20))])
                    .skip)]),
                (.reg [o 21 (.mov (T 0)), o 22 (.mov (T 6)), o 23 (.idxAddr 6 (T 21) (T 22)), o 24 (.fieldAddr 0 (T 23)), o 25 (.load false 1 (T 24)), o 26 (.bin .eql (T 25) (I 6))]),
                (.cond (T 26)
                  (sqs [
                    (.reg [o 27 (.mov (T 5)), o 28 (.bin .sub (T 27) (I 1)), o 5 (.mov (T 28))]),
                    (.reg [o 29 (.mov (T 5)), o 30 (.bin .eql (T 29) (I 0))]),
                    (.cond (T 30)
                      (sqs [
                        (.reg [o 31 (.mov (T 6)), o 4 (.mov (T 31))]),
                        .ret])
                      .skip)])
                  .skip)])),
            (.reg [o 12 (.mov (T 6)), o 13 (.bin .add (T 12) (I 1)), o 6 (.mov (T 13))])])))]),
    (.reg [o 4 (.mov (I (-1)))]),
    .ret])
theorem ok137 : cfn Tryz.prog Tryz.f137 2 = some (s137, [.tmp 4]) := by kernel_rfl

/-! 138 slices.Index[[]int,int] -/
def s138 : SCode :=
  (sqs [
    (.reg [o 4 (.mov (I 0))]),
    (sqs [
      (.reg [o 6 (.mov (T 0)), o 7 (.len (T 6)), o 8 (.mov (I 0))]),
      (.block 0
        (.loop
          (sqs [
            (.reg [o 9 (.bin .lss (T 8) (T 7))]),
            (.cond (T 9)
              .skip
              (.exit 0)),
            (.block 1
              (sqs [
                (.reg [o 10 (.mov (T 8)), o 5 (.mov (T 10))]),
                (.reg [o 11 (.mov (T 1)), o 12 (.mov (T 0)), o 13 (.mov (T 5)), o 14 (.idxAddr 1 (T 12) (T 13)), o 15 (.load false 1 (T 14)), o 16 (.bin .eql (T 11) (T 15))]),
                (.cond (T 16)
                  (sqs [
                    (.reg [o 17 (.mov (T 5)), o 4 (.mov (T 17))]),
                    .ret])
                  .skip)])),
            (.reg [o 18 (.bin .add (T 8) (I 1)), o 8 (.mov (T 18))])])))]),
    (.reg [o 4 (.mov (I (-1)))]),
    .ret])
theorem ok138 : cfn Tryz.prog Tryz.f138 2 = some (s138, [.tmp 4]) := by kernel_rfl

/-! 139 impl.IsRigid$1 -/
def s139 : SCode :=
  (sqs [
    (.reg [o 3 (.box 4 (T 0)), o 4 (.mov (B false))]),
    (.regD [o 5 (.fieldAddr 1 (T 3)), ⟨some 6, (.load true 3 (T 5)), none, 1, []⟩, o 7 (.call 140 [(T 6)]), o 8 (.len (T 7)), o 9 (.bin .gtr (T 8) (I 0)), o 10 (.mov (T 9)), ⟨some 11, (.load false 1 (T 1)), some (10, false), 6, []⟩, og 12 (.fieldAddr 1 (T 3)) 10 false, ⟨some 13, (.load true 3 (T 12)), some (10, false), 8, []⟩, og 15 (.fieldAddr 0 (T 2)) 10 false, ⟨some 16, (.load false 1 (T 15)), some (10, false), 11, []⟩, og 17 (.len (T 16)) 10 false, og 18 (.bin .sub (T 17) (I 1)) 10 false, ⟨some 14, (.call 141 [(T 11), (T 13)]), some (10, false), 0, [11]⟩, og 19 (.call 114 [(T 14), (I 0), (T 18)]) 10 false, og 20 (.not (T 19)) 10 false, o 21 (.pick (T 10) (B true) (T 20)), o 4 (.mov (T 21))]),
    .ret])
theorem ok139 : cfn Tryz.prog Tryz.f139 3 = some (s139, [.tmp 4]) := by kernel_rfl

/-! 140 impl.ReadsOf -/
def s140 : SCode :=
  (sqs [
    (.reg [o 1 (.box 3 (T 0)), o 2 (.mov N)]),
    (sqs [
      (.reg [o 6 (.load true 3 (T 1)), o 7 (.call 160 [(T 6)]), o 8 (.not (T 7))]),
      (.cond (T 8)
        (sqs [
          (.reg [o 2 (.mov N)]),
          .ret])
        .skip)]),
    (.reg [o 9 (.lit 0 1 [(.int .i64 0)] []), o 3 (.mov (T 9))]),
    (sqs [
      (.reg [o 10 (.fieldAddr 1 (T 1)), o 11 (.load false 1 (T 10)), o 12 (.fieldAddr 2 (T 1)), o 13 (.load false 1 (T 12)), o 14 (.lit 2 1 [(.int .i64 0)] [(0, (T 11)), (1, (T 13))]), o 15 (.len (T 14)), o 16 (.mov (I 0))]),
      (.block 0
        (.loop
          (sqs [
            (.reg [o 17 (.bin .lss (T 16) (T 15))]),
            (.cond (T 17)
              .skip
              (.exit 0)),
            (.block 1
              (sqs [
                (.reg [o 18 (.idxAddr 1 (T 14) (T 16)), o 19 (.load false 1 (T 18)), o 5 (.mov (T 19))]),
                (.reg [o 20 (.mov (T 5)), o 21 (.bin .lss (T 20) (I 0))]),
                (.cond (T 21)
                  (.reg [o 22 (.mov (T 3)), o 23 (.mov (T 5)), o 24 (.bin .sub (I (-1)) (T 23)), o 25 (.lit 1 1 [(.int .i64 0)] [(0, (T 24))]), o 26 (.append 1 8 (T 22) (T 25)), o 3 (.mov (T 26))])
                  .skip)])),
            (.reg [o 27 (.bin .add (T 16) (I 1)), o 16 (.mov (T 27))])])))]),
    (.reg [o 28 (.mov (T 3)), o 29 (.call 194 [(T 28)])]),
    (.reg [o 30 (.mov (T 3)), o 31 (.call 195 [(T 30)]), o 2 (.mov (T 31))]),
    .ret])
theorem ok140 : cfn Tryz.prog Tryz.f140 1 = some (s140, [.tmp 2]) := by kernel_rfl

end Go.Av

import Derived.Test.YtjfmbdigfnablaaGreatAv23
import Derived.Test.YtjfmbdigfnablaaGreatProg
namespace Go.Av
open Go.Proofs
set_option maxRecDepth 1000000
/-! 3 laws.FnProgress -/
def s3 : SCode :=
  (sqs [
    (.reg [o 2 (.mov (B false))]),
    (sqs [
      (.reg [o 11 (.mov (T 0)), o 12 (.call 13 [(T 11)])]),
      (.cond (T 12)
        (sqs [
          (.reg [o 2 (.mov (B true))]),
          .ret])
        .skip)]),
    (.reg [o 14 (.mov (T 0)), o 15 (.call 14 [(T 14)]), o 13 (.mov (T 15)), o 16 (.ext 0 (T 13)), o 17 (.ext 1 (T 13)), o 18 (.ext 2 (T 13)), o 19 (.ext 3 (T 13)), o 3 (.hole 1), o 5 (.hole 4), o 3 (.birth 1 (T 3) (T 16)), o 4 (.mov (T 17)), o 5 (.birth 4 (T 5) (T 18)), o 6 (.mov (T 19))]),
    (.reg [o 20 (.mov (T 0)), o 21 (.call 15 [(T 20)]), o 7 (.mov (T 21))]),
    (.reg [o 23 (.load true 1 (T 3)), o 24 (.mov (T 4)), o 25 (.mov (T 7)), o 26 (.load true 4 (T 5)), o 27 (.mov (T 6)), o 28 (.call 16 [(T 23), (T 24), (T 25), (T 26), (T 27)]), o 22 (.mov (T 28)), o 29 (.ext 0 (T 22)), o 30 (.ext 1 (T 22)), o 8 (.hole 4), o 8 (.birth 4 (T 8) (T 29)), o 9 (.mov (T 30))]),
    (sqs [
      (.reg [o 31 (.load true 1 (T 3)), o 32 (.load true 4 (T 5)), o 33 (.call 17 [(T 31), (T 32)]), o 34 (.not (T 33))]),
      (.cond (T 34)
        (sqs [
          (.reg [o 35 (.mov (T 9)), o 36 (.not (T 35)), o 37 (.mov (T 36)), og 38 (.load true 1 (T 3)) 37 true, og 39 (.load true 4 (T 5)) 37 true, og 40 (.call 18 [(T 38), (T 39)]) 37 true, og 41 (.bin .eql (T 40) (I (-1))) 37 true, o 42 (.pick (T 37) (T 41) (B false)), o 2 (.mov (T 42))]),
          .ret])
        .skip)]),
    (.reg [o 43 (.load true 4 (T 5)), o 44 (.mov (T 6)), o 45 (.call 19 [(T 43), (T 44)]), o 10 (.mov (T 45))]),
    (.reg [o 46 (.mov (T 9)), o 47 (.mov (T 46)), og 48 (.load true 4 (T 8)) 47 true, og 49 (.call 20 [(T 48)]) 47 true, og 50 (.bin .eql (T 49) (I 0)) 47 true, o 51 (.pick (T 47) (T 50) (B false)), o 52 (.mov (T 51)), og 53 (.load true 4 (T 8)) 52 true, og 54 (.call 21 [(T 53)]) 52 true, og 55 (.mov (T 10)) 52 true, og 56 (.bin .geq (T 54) (T 55)) 52 true, o 57 (.pick (T 52) (T 56) (B false)), o 58 (.mov (T 57)), og 59 (.fieldAddr 3 (T 8)) 58 true, og 60 (.load false 1 (T 59)) 58 true, og 61 (.len (T 60)) 58 true, og 62 (.mov (T 10)) 58 true, og 63 (.bin .eql (T 61) (T 62)) 58 true, o 64 (.pick (T 58) (T 63) (B false)), o 2 (.mov (T 64))]),
    .ret])
theorem ok3 : cfn Tryz.prog Tryz.f3 1 = some (s3, [.tmp 2]) := by kernel_rfl

/-! 5 laws.FnBounds -/
def s5 : SCode :=
  (sqs [
    (.reg [o 2 (.mov (B false))]),
    (sqs [
      (.reg [o 12 (.mov (T 0)), o 13 (.call 13 [(T 12)])]),
      (.cond (T 13)
        (sqs [
          (.reg [o 2 (.mov (B true))]),
          .ret])
        .skip)]),
    (.reg [o 15 (.mov (T 0)), o 16 (.call 30 [(T 15)]), o 14 (.mov (T 16)), o 17 (.ext 0 (T 14)), o 18 (.ext 1 (T 14)), o 3 (.hole 1), o 3 (.birth 1 (T 3) (T 17)), o 4 (.mov (T 18))]),
    (.reg [o 19 (.mov (T 0)), o 20 (.call 15 [(T 19)]), o 5 (.mov (T 20))]),
    (.reg [o 22 (.load true 1 (T 3)), o 23 (.mov (T 4)), o 24 (.mov (T 5)), o 25 (.call 31 [(T 22), (T 23), (T 24), (I 0)]), o 21 (.mov (T 25)), o 26 (.ext 0 (T 21)), o 27 (.ext 1 (T 21)), o 6 (.hole 2), o 6 (.birth 2 (T 6) (T 26)), o 7 (.mov (T 27))]),
    (.reg [o 29 (.mov (T 4)), o 30 (.idxAddr 1 (T 29) (I 8)), o 31 (.load false 1 (T 30)), o 32 (.call 32 [(T 31)]), o 28 (.mov (T 32)), o 33 (.ext 0 (T 28)), o 34 (.ext 1 (T 28)), o 35 (.ext 2 (T 28)), o 8 (.mov (T 33)), o 9 (.mov (T 34)), o 10 (.mov (T 35))]),
    (.reg [o 36 (.fieldAddr 0 (T 3)), o 37 (.load false 1 (T 36)), o 38 (.mov (T 8)), o 39 (.idxAddr 4 (T 37) (T 38)), o 40 (.load true 4 (T 39)), o 11 (.hole 4), o 11 (.birth 4 (T 11) (T 40))]),
    (.regD [o 41 (.mov (T 7)), o 42 (.mov (T 41)), ⟨some 43, (.load true 2 (T 6)), some (42, true), 2, []⟩, ⟨some 45, (.load true 4 (T 11)), some (42, true), 4, []⟩, ⟨some 44, (.call 33 [(T 43)]), some (42, true), 0, [4]⟩, og 46 (.call 34 [(T 45)]) 42 true, og 47 (.bin .leq (T 44) (T 46)) 42 true, o 48 (.pick (T 42) (T 47) (B false)), o 49 (.mov (T 48)), ⟨some 50, (.load true 4 (T 11)), some (49, true), 9, []⟩, ⟨some 52, (.load true 4 (T 11)), some (49, true), 11, []⟩, ⟨some 51, (.call 34 [(T 50)]), some (49, true), 0, [11]⟩, og 53 (.call 35 [(T 52)]) 49 true, og 54 (.bin .leq (T 51) (T 53)) 49 true, o 55 (.pick (T 49) (T 54) (B false)), o 56 (.mov (T 55)), ⟨some 57, (.load true 4 (T 11)), some (56, true), 16, []⟩, ⟨some 59, (.load true 4 (T 11)), some (56, true), 18, []⟩, ⟨some 58, (.call 36 [(T 57)]), some (56, true), 0, [18]⟩, og 60 (.call 34 [(T 59)]) 56 true, og 61 (.bin .lss (T 58) (T 60)) 56 true, o 62 (.pick (T 56) (T 61) (B false)), o 2 (.mov (T 62))]),
    .ret])
theorem ok5 : cfn Tryz.prog Tryz.f5 1 = some (s5, [.tmp 2]) := by kernel_rfl

/-! 9 laws.FnBootBounds -/
def s9 : SCode :=
  (sqs [
    (.reg [o 2 (.mov (B false))]),
    (sqs [
      (.reg [o 15 (.mov (T 0)), o 16 (.call 13 [(T 15)])]),
      (.cond (T 16)
        (sqs [
          (.reg [o 2 (.mov (B true))]),
          .ret])
        .skip)]),
    (.reg [o 18 (.mov (T 0)), o 19 (.call 30 [(T 18)]), o 17 (.mov (T 19)), o 20 (.ext 0 (T 17)), o 21 (.ext 1 (T 17)), o 3 (.hole 1), o 3 (.birth 1 (T 3) (T 20)), o 4 (.mov (T 21))]),
    (.reg [o 22 (.mov (T 0)), o 23 (.call 15 [(T 22)]), o 5 (.mov (T 23))]),
    (.reg [o 24 (.mov (T 0)), o 25 (.call 45 [(T 24)]), o 6 (.mov (T 25))]),
    (.reg [o 27 (.load true 1 (T 3)), o 28 (.mov (T 4)), o 29 (.mov (T 5)), o 30 (.mov (T 6)), o 31 (.call 46 [(T 27), (T 28), (T 29), (T 30)]), o 26 (.mov (T 31)), o 32 (.ext 0 (T 26)), o 33 (.ext 1 (T 26)), o 7 (.hole 4), o 7 (.birth 4 (T 7) (T 32)), o 8 (.mov (T 33))]),
    (sqs [
      (.reg [o 34 (.fieldAddr 0 (T 7)), o 35 (.load false 1 (T 34)), o 36 (.len (T 35)), o 37 (.bin .neq (T 36) (I 49))]),
      (.cond (T 37)
        (sqs [
          (.reg [o 2 (.mov (B false))]),
          .ret])
        .skip)]),
    (.reg [o 39 (.fieldAddr 0 (T 7)), o 40 (.load false 1 (T 39)), o 41 (.idxAddr 1 (T 40) (I 8)), o 42 (.load false 1 (T 41)), o 43 (.call 32 [(T 42)]), o 38 (.mov (T 43)), o 44 (.ext 0 (T 38)), o 45 (.ext 1 (T 38)), o 46 (.ext 2 (T 38)), o 9 (.mov (T 44)), o 10 (.mov (T 45)), o 11 (.mov (T 46))]),
    (sqs [
      (.reg [o 47 (.mov (T 9)), o 48 (.bin .lss (T 47) (I 0)), o 49 (.mov (T 48)), og 50 (.mov (T 9)) 49 false, og 51 (.fieldAddr 0 (T 3)) 49 false, og 52 (.load false 1 (T 51)) 49 false, og 53 (.len (T 52)) 49 false, og 54 (.bin .geq (T 50) (T 53)) 49 false, o 55 (.pick (T 49) (B true) (T 54))]),
      (.cond (T 55)
        (sqs [
          (.reg [o 2 (.mov (B false))]),
          .ret])
        .skip)]),
    (.reg [o 56 (.fieldAddr 0 (T 3)), o 57 (.load false 1 (T 56)), o 58 (.mov (T 9)), o 59 (.idxAddr 4 (T 57) (T 58)), o 60 (.load true 4 (T 59)), o 61 (.call 35 [(T 60)]), o 12 (.mov (T 61))]),
    (sqs [
      (.reg [o 62 (.mov (T 12)), o 63 (.bin .gtr (T 62) (I 100000))]),
      (.cond (T 63)
        (sqs [
          (.reg [o 2 (.mov (B true))]),
          .ret])
        .skip)]),
    (.reg [o 65 (.load true 1 (T 3)), o 66 (.fieldAddr 0 (T 7)), o 67 (.load false 1 (T 66)), o 68 (.mov (T 5)), o 69 (.fieldAddr 1 (T 7)), o 70 (.load false 1 (T 69)), o 71 (.mov (T 12)), o 72 (.call 47 [(T 65), (T 67), (T 68), (T 70), (T 71)]), o 64 (.mov (T 72)), o 73 (.ext 0 (T 64)), o 74 (.ext 1 (T 64)), o 13 (.hole 4), o 13 (.birth 4 (T 13) (T 73)), o 14 (.mov (T 74))]),
    (.reg [o 75 (.mov (T 8)), o 76 (.mov (T 75)), og 77 (.mov (T 14)) 76 true, o 78 (.pick (T 76) (T 77) (B false)), o 79 (.mov (T 78)), og 80 (.load true 4 (T 13)) 79 true, og 81 (.call 48 [(T 80)]) 79 true, og 82 (.bin .geq (T 81) (I 1)) 79 true, o 83 (.pick (T 79) (T 82) (B false)), o 2 (.mov (T 83))]),
    .ret])
theorem ok9 : cfn Tryz.prog Tryz.f9 1 = some (s9, [.tmp 2]) := by kernel_rfl

/-! 13 laws.big -/
def s13 : SCode :=
  (sqs [
    (.reg [o 2 (.mov (B false))]),
    (.reg [o 3 (.mov (T 0)), o 4 (.len (T 3)), o 5 (.bin .gtr (T 4) (I 1048576)), o 2 (.mov (T 5))]),
    .ret])
theorem ok13 : cfn Tryz.prog Tryz.f13 1 = some (s13, [.tmp 2]) := by kernel_rfl

/-! 14 spec.DrawCertified -/
def s14 : SCode :=
  (sqs [
    (.reg [o 2 (.zero [.nils]), o 3 (.mov N), o 4 (.zero [(.int .i64 0), (.int .i64 0), (.int .i64 0), (.int .i64 0)]), o 5 (.mov N)]),
    (.reg [o 13 (.mov (T 0)), o 14 (.call 59 [(T 13)]), o 6 (.mov (T 14))]),
    (.reg [o 15 (.mov (T 6)), o 16 (.call 60 [(T 15)]), o 7 (.hole 1), o 7 (.birth 1 (T 7) (T 16))]),
    (.reg [o 17 (.mov (T 6)), o 18 (.load true 1 (T 7)), o 19 (.call 61 [(T 17), (T 18)]), o 8 (.mov (T 19))]),
    (.reg [o 21 (.mov (T 8)), o 22 (.idxAddr 1 (T 21) (I 8)), o 23 (.load false 1 (T 22)), o 24 (.call 32 [(T 23)]), o 20 (.mov (T 24)), o 25 (.ext 0 (T 20)), o 26 (.ext 1 (T 20)), o 27 (.ext 2 (T 20)), o 9 (.mov (T 25)), o 10 (.mov (T 26)), o 11 (.mov (T 27))]),
    (.reg [o 28 (.mov (T 8)), o 29 (.mov (T 9)), o 30 (.mov (T 11)), o 31 (.call 62 [(T 29), (I 0), (T 30)]), o 32 (.idxAddr 1 (T 28) (I 8)), on_ (.store 1 (T 32) (T 31))]),
    (.reg [o 33 (.mov (T 6)), o 34 (.load true 1 (T 7)), o 35 (.call 63 [(T 33), (T 34)]), o 12 (.hole 4), o 12 (.birth 4 (T 12) (T 35))]),
    (.regD [o 36 (.load true 1 (T 7)), o 37 (.mov (T 8)), ⟨some 38, (.load true 4 (T 12)), none, 2, []⟩, o 39 (.mov (T 6)), ⟨some 40, (.call 64 [(T 39)]), none, 0, [0, 2]⟩, ⟨none, (.store 1 (T 2) (T 36)), none, 0, [2]⟩, o 3 (.mov (T 37)), on_ (.store 4 (T 4) (T 38)), o 5 (.mov (T 40))]),
    .ret])
theorem ok14 : cfn Tryz.prog Tryz.f14 1 = some (s14, [.cell 2 true 1, .tmp 3, .cell 4 true 4, .tmp 5]) := by kernel_rfl

/-! 15 spec.DrawReadings -/
def s15 : SCode :=
  (sqs [
    (.reg [o 2 (.mov N)]),
    (.reg [o 3 (.mov (T 0)), o 4 (.call 59 [(T 3)]), o 5 (.call 65 [(T 4)]), o 2 (.mov (T 5))]),
    .ret])
theorem ok15 : cfn Tryz.prog Tryz.f15 1 = some (s15, [.tmp 2]) := by kernel_rfl

/-! 16 impl.CertifiedRun -/
def s16 : SCode :=
  (sqs [
    (.reg [o 5 (.box 1 (T 0)), o 8 (.box 4 (T 3)), o 10 (.zero [.nils, (.int .i64 0), .nils, .nils]), o 11 (.mov (B false))]),
    (.reg [o 15 (.load true 4 (T 8)), o 16 (.mov (T 4)), o 17 (.call 66 [(T 15), (T 16)]), o 14 (.mov (T 17)), o 18 (.ext 0 (T 14)), o 19 (.ext 1 (T 14)), o 12 (.mov (T 18)), o 13 (.mov (T 19))]),
    (sqs [
      (.reg [o 20 (.load true 1 (T 5)), o 21 (.load true 4 (T 8)), o 22 (.call 17 [(T 20), (T 21)]), o 23 (.not (T 22)), o 24 (.mov (T 23)), og 25 (.mov (T 13)) 24 false, og 26 (.not (T 25)) 24 false, o 27 (.pick (T 24) (B true) (T 26))]),
      (.cond (T 27)
        (sqs [
          (.reg [o 28 (.build [.nils, (.int .i64 0), .nils, .nils] []), on_ (.store 4 (T 10) (T 28)), o 11 (.mov (B false))]),
          .ret])
        .skip)]),
    (.regD [o 29 (.load true 1 (T 5)), o 30 (.mov (T 1)), o 31 (.mov (T 2)), o 32 (.mov (T 12)), o 33 (.mov (T 12)), o 34 (.len (T 33)), o 35 (.min (I 60) (T 34)), o 36 (.slice 1 (T 32) none (some (T 35))), o 37 (.call 46 [(T 29), (T 30), (T 31), (T 36)]), o 38 (.ext 0 (T 37)), o 39 (.ext 1 (T 37)), on_ (.store 4 (T 10) (T 38)), o 11 (.mov (T 39))]),
    .ret])
theorem ok16 : cfn Tryz.prog Tryz.f16 5 = some (s16, [.cell 10 true 4, .tmp 11]) := by kernel_rfl

/-! 17 impl.IsCertified -/
def s17 : SCode :=
  (sqs [
    (.reg [o 2 (.box 1 (T 0)), o 3 (.box 4 (T 1)), o 4 (.mov (B false))]),
    (.reg [o 5 (.load true 1 (T 2)), o 6 (.call 67 [(T 5)]), o 7 (.mov (T 6)), og 8 (.load true 4 (T 3)) 7 true, og 9 (.call 68 [(T 8)]) 7 true, o 10 (.pick (T 7) (T 9) (B false)), o 11 (.mov (T 10)), og 12 (.fieldAddr 0 (T 2)) 11 true, og 13 (.load false 1 (T 12)) 11 true, og 14 (.mkfn 70 [(T 3)]) 11 true, og 15 (.call 69 [(T 13), (T 14)]) 11 true, og 16 (.not (T 15)) 11 true, o 17 (.pick (T 11) (T 16) (B false)), o 4 (.mov (T 17))]),
    .ret])
theorem ok17 : cfn Tryz.prog Tryz.f17 2 = some (s17, [.tmp 4]) := by kernel_rfl

/-! 18 impl.SlackOf -/
def s18 : SCode :=
  (sqs [
    (.reg [o 2 (.box 1 (T 0)), o 3 (.box 4 (T 1)), o 4 (.mov (I 0))]),
    (sqs [
      (.reg [o 8 (.load true 1 (T 2)), o 9 (.load true 4 (T 3)), o 10 (.call 17 [(T 8), (T 9)]), o 11 (.not (T 10))]),
      (.cond (T 11)
        (sqs [
          (.reg [o 4 (.mov (I (-1)))]),
          .ret])
        .skip)]),
    (.reg [o 5 (.mov (I 0))]),
    (sqs [
      (.reg [o 12 (.fieldAddr 0 (T 2)), o 13 (.load false 1 (T 12)), o 14 (.len (T 13)), o 15 (.mov (I 0))]),
      (.block 0
        (.loop
          (sqs [
            (.reg [o 16 (.bin .lss (T 15) (T 14))]),
            (.cond (T 16)
              .skip
              (.exit 0)),
            (.block 1
              (sqs [
                (.reg [o 17 (.idxAddr 4 (T 13) (T 15)), o 18 (.load true 4 (T 17)), o 7 (.hole 4), o 7 (.birth 4 (T 7) (T 18))]),
                (.reg [o 19 (.mov (T 5)), o 20 (.load true 4 (T 7)), o 21 (.call 35 [(T 20)]), o 22 (.max (T 19) (T 21)), o 5 (.mov (T 22))])])),
            (.reg [o 23 (.bin .add (T 15) (I 1)), o 15 (.mov (T 23))])])))]),
    (.reg [o 24 (.fieldAddr 2 (T 3)), o 25 (.load false 1 (T 24)), o 26 (.mov (T 5)), o 27 (.bin .sub (T 25) (T 26)), o 4 (.mov (T 27))]),
    .ret])
theorem ok18 : cfn Tryz.prog Tryz.f18 2 = some (s18, [.tmp 4]) := by kernel_rfl

/-! 19 impl.CommitsAtLeast -/
def s19 : SCode :=
  (sqs [
    (.reg [o 2 (.box 4 (T 0)), o 4 (.mov (I 0))]),
    (.reg [o 8 (.load true 4 (T 2)), o 9 (.mov (T 1)), o 10 (.call 66 [(T 8), (T 9)]), o 7 (.mov (T 10)), o 11 (.ext 0 (T 7)), o 12 (.ext 1 (T 7)), o 5 (.mov (T 11)), o 6 (.mov (T 12))]),
    (sqs [
      (.reg [o 13 (.mov (T 6)), o 14 (.not (T 13))]),
      (.cond (T 14)
        (sqs [
          (.reg [o 4 (.mov (I (-1)))]),
          .ret])
        .skip)]),
    (.reg [o 15 (.mov (T 5)), o 16 (.len (T 15)), o 17 (.min (I 60) (T 16)), o 4 (.mov (T 17))]),
    .ret])
theorem ok19 : cfn Tryz.prog Tryz.f19 2 = some (s19, [.tmp 4]) := by kernel_rfl

/-! 20 impl.IdleBoots -/
def s20 : SCode :=
  (sqs [
    (.reg [o 1 (.box 4 (T 0)), o 2 (.mov (I 0))]),
    (.reg [o 3 (.mov (I 0))]),
    (sqs [
      (.reg [o 6 (.fieldAddr 3 (T 1)), o 7 (.load false 1 (T 6)), o 8 (.len (T 7)), o 9 (.mov (I 0))]),
      (.block 0
        (.loop
          (sqs [
            (.reg [o 10 (.bin .lss (T 9) (T 8))]),
            (.cond (T 10)
              .skip
              (.exit 0)),
            (.block 1
              (sqs [
                (.reg [o 11 (.idxAddr 1 (T 7) (T 9)), o 12 (.load false 1 (T 11)), o 5 (.mov (T 12))]),
                (.reg [o 13 (.mov (T 3)), o 14 (.mov (T 5)), o 15 (.bin .eql (T 14) (I 0)), o 16 (.call 71 [(T 15)]), o 17 (.bin .add (T 13) (T 16)), o 3 (.mov (T 17))])])),
            (.reg [o 18 (.bin .add (T 9) (I 1)), o 9 (.mov (T 18))])])))]),
    (.reg [o 19 (.mov (T 3)), o 2 (.mov (T 19))]),
    .ret])
theorem ok20 : cfn Tryz.prog Tryz.f20 1 = some (s20, [.tmp 2]) := by kernel_rfl

/-! 21 impl.Progress -/
def s21 : SCode :=
  (sqs [
    (.reg [o 1 (.box 4 (T 0)), o 2 (.mov (I 0))]),
    (.reg [o 3 (.fieldAddr 2 (T 1)), o 4 (.load false 1 (T 3)), o 5 (.len (T 4)), o 2 (.mov (T 5))]),
    .ret])
theorem ok21 : cfn Tryz.prog Tryz.f21 1 = some (s21, [.tmp 2]) := by kernel_rfl

/-! 25 impl.CutPoints -/
def s25 : SCode :=
  (sqs [
    (.reg [o 2 (.mov N)]),
    (sqs [
      (.reg [o 5 (.mov (T 0)), o 6 (.call 75 [(T 5)]), o 7 (.not (T 6))]),
      (.cond (T 7)
        (sqs [
          (.reg [o 2 (.mov N)]),
          .ret])
        .skip)]),
    (.reg [o 8 (.lit 0 1 [(.int .i64 0)] []), o 3 (.mov (T 8))]),
    (sqs [
      (.reg [o 4 (.mov (I 1))]),
      (.block 0
        (.loop
          (sqs [
            (sqs [
              (.reg [o 9 (.mov (T 4)), o 10 (.mov (T 0)), o 11 (.len (T 10)), o 12 (.bin .lss (T 9) (T 11))]),
              (.cond (T 12)
                .skip
                (.exit 0))]),
            (.block 1
              (sqs [
                (.reg [o 15 (.mov (T 0)), o 16 (.mov (T 4)), o 17 (.call 76 [(T 15), (T 16)]), o 18 (.bin .eql (T 17) (I 0)), o 19 (.mov (T 18)), og 20 (.mov (T 0)) 19 true, og 21 (.mov (T 4)) 19 true, og 22 (.idxAddr 6 (T 20) (T 21)) 19 true, og 23 (.fieldAddr 0 (T 22)) 19 true, og 24 (.load false 1 (T 23)) 19 true, og 25 (.bin .neq (T 24) (I 6)) 19 true, o 26 (.pick (T 19) (T 25) (B false))]),
                (.cond (T 26)
                  (.reg [o 27 (.mov (T 3)), o 28 (.mov (T 4)), o 29 (.lit 1 1 [(.int .i64 0)] [(0, (T 28))]), o 30 (.append 1 8 (T 27) (T 29)), o 3 (.mov (T 30))])
                  .skip)])),
            (.reg [o 13 (.mov (T 4)), o 14 (.bin .add (T 13) (I 1)), o 4 (.mov (T 14))])])))]),
    (.reg [o 31 (.mov (T 3)), o 2 (.mov (T 31))]),
    .ret])
theorem ok25 : cfn Tryz.prog Tryz.f25 1 = some (s25, [.tmp 2]) := by kernel_rfl

/-! 26 spec.CutPoints -/
def s26 : SCode :=
  (sqs [
    (.reg [o 2 (.mov N)]),
    (.reg [o 5 (.lit 0 1 [(.int .i64 0)] []), o 3 (.mov (T 5))]),
    (sqs [
      (.reg [o 4 (.mov (I 1))]),
      (.block 0
        (.loop
          (sqs [
            (sqs [
              (.reg [o 6 (.mov (T 4)), o 7 (.mov (T 0)), o 8 (.len (T 7)), o 9 (.bin .lss (T 6) (T 8)), o 10 (.mov (T 9)), og 11 (.mov (T 0)) 10 true, og 12 (.call 77 [(T 11)]) 10 true, o 13 (.pick (T 10) (T 12) (B false))]),
              (.cond (T 13)
                .skip
                (.exit 0))]),
            (.block 1
              (sqs [
                (.reg [o 16 (.mov (T 0)), o 17 (.mov (T 4)), o 18 (.idxAddr 6 (T 16) (T 17)), o 19 (.fieldAddr 0 (T 18)), o 20 (.load false 1 (T 19)), o 21 (.bin .neq (T 20) (I 6)), o 22 (.mov (T 21)), og 23 (.mov (T 0)) 22 true, og 24 (.mov (T 4)) 22 true, og 25 (.call 78 [(T 23), (T 24)]) 22 true, og 26 (.bin .eql (T 25) (I 0)) 22 true, o 27 (.pick (T 22) (T 26) (B false))]),
                (.cond (T 27)
                  (.reg [o 28 (.mov (T 3)), o 29 (.mov (T 4)), o 30 (.lit 1 1 [(.int .i64 0)] [(0, (T 29))]), o 31 (.append 1 8 (T 28) (T 30)), o 3 (.mov (T 31))])
                  .skip)])),
            (.reg [o 14 (.mov (T 4)), o 15 (.bin .add (T 14) (I 1)), o 4 (.mov (T 15))])])))]),
    (.reg [o 32 (.mov (T 3)), o 2 (.mov (T 32))]),
    .ret])
theorem ok26 : cfn Tryz.prog Tryz.f26 1 = some (s26, [.tmp 2]) := by kernel_rfl

/-! 27 impl.SplitTask -/
def s27 : SCode :=
  (sqs [
    (.reg [o 3 (.box 1 (T 0)), o 6 (.zero [.nils]), o 7 (.mov (B false))]),
    (sqs [
      (.reg [o 8 (.load true 1 (T 3)), o 9 (.mov (T 1)), o 10 (.call 79 [(T 8), (T 9)]), o 11 (.not (T 10)), o 12 (.mov (T 11)), og 13 (.fieldAddr 0 (T 3)) 12 false, og 14 (.load false 1 (T 13)) 12 false, og 15 (.mov (T 1)) 12 false, og 16 (.idxAddr 4 (T 14) (T 15)) 12 false, og 17 (.fieldAddr 0 (T 16)) 12 false, og 18 (.load false 1 (T 17)) 12 false, og 19 (.call 25 [(T 18)]) 12 false, og 20 (.mov (T 2)) 12 false, og 21 (.call 80 [(T 19), (T 20)]) 12 false, og 22 (.not (T 21)) 12 false, o 23 (.pick (T 12) (B true) (T 22)), o 24 (.mov (T 23)), og 25 (.fieldAddr 0 (T 3)) 24 false, og 26 (.load false 1 (T 25)) 24 false, og 27 (.len (T 26)) 24 false, og 28 (.bin .eql (T 27) (I 6)) 24 false, o 29 (.pick (T 24) (B true) (T 28)), o 30 (.mov (T 29)), og 31 (.load true 1 (T 3)) 30 false, og 32 (.call 81 [(T 31)]) 30 false, og 33 (.not (T 32)) 30 false, o 34 (.pick (T 30) (B true) (T 33))]),
      (.cond (T 34)
        (sqs [
          (.reg [o 35 (.load true 1 (T 3)), o 36 (.call 82 [(T 35)]), on_ (.store 1 (T 6) (T 36)), o 7 (.mov (B false))]),
          .ret])
        .skip)]),
    (.reg [o 37 (.load true 1 (T 3)), o 38 (.mov (T 1)), o 39 (.mov (T 2)), o 40 (.call 83 [(T 37), (T 38), (T 39)]), on_ (.store 1 (T 6) (T 40)), o 7 (.mov (B true))]),
    .ret])
theorem ok27 : cfn Tryz.prog Tryz.f27 3 = some (s27, [.cell 6 true 1, .tmp 7]) := by kernel_rfl

/-! 30 spec.DrawMemory -/
def s30 : SCode :=
  (sqs [
    (.reg [o 2 (.zero [.nils]), o 3 (.mov N)]),
    (.reg [o 10 (.mov (T 0)), o 11 (.call 59 [(T 10)]), o 4 (.mov (T 11))]),
    (.reg [o 12 (.mov (T 4)), o 13 (.call 60 [(T 12)]), o 5 (.hole 1), o 5 (.birth 1 (T 5) (T 13))]),
    (.reg [o 14 (.mov (T 4)), o 15 (.load true 1 (T 5)), o 16 (.call 61 [(T 14), (T 15)]), o 6 (.mov (T 16))]),
    (.reg [o 18 (.mov (T 6)), o 19 (.idxAddr 1 (T 18) (I 8)), o 20 (.load false 1 (T 19)), o 21 (.call 32 [(T 20)]), o 17 (.mov (T 21)), o 22 (.ext 0 (T 17)), o 23 (.ext 1 (T 17)), o 24 (.ext 2 (T 17)), o 7 (.mov (T 22)), o 8 (.mov (T 23)), o 9 (.mov (T 24))]),
    (.reg [o 25 (.mov (T 6)), o 26 (.mov (T 7)), o 27 (.mov (T 9)), o 28 (.call 62 [(T 26), (I 0), (T 27)]), o 29 (.idxAddr 1 (T 25) (I 8)), on_ (.store 1 (T 29) (T 28))]),
    (.reg [o 30 (.load true 1 (T 5)), o 31 (.mov (T 6)), on_ (.store 1 (T 2) (T 30)), o 3 (.mov (T 31))]),
    .ret])
theorem ok30 : cfn Tryz.prog Tryz.f30 1 = some (s30, [.cell 2 true 1, .tmp 3]) := by kernel_rfl

/-! 31 impl.TraceOf -/
def s31 : SCode :=
  (sqs [
    (.reg [o 4 (.box 1 (T 0)), o 8 (.zero [.nils, .nils]), o 9 (.mov (B false))]),
    (sqs [
      (.reg [o 10 (.load true 1 (T 4)), o 11 (.mov (T 1)), o 12 (.call 89 [(T 10), (T 11)]), o 13 (.not (T 12)), o 14 (.mov (T 13)), og 15 (.mov (T 1)) 14 false, og 16 (.call 90 [(T 15)]) 14 false, og 17 (.not (T 16)) 14 false, o 18 (.pick (T 14) (B true) (T 17)), o 19 (.mov (T 18)), og 20 (.mov (T 2)) 19 false, og 21 (.mov (T 3)) 19 false, og 22 (.call 91 [(T 20), (T 21)]) 19 false, og 23 (.not (T 22)) 19 false, o 24 (.pick (T 19) (B true) (T 23))]),
      (.cond (T 24)
        (sqs [
          (.reg [o 25 (.build [.nils, .nils] []), on_ (.store 2 (T 8) (T 25)), o 9 (.mov (B false))]),
          .ret])
        .skip)]),
    (.reg [o 26 (.load true 1 (T 4)), o 27 (.mov (T 1)), o 28 (.mov (T 2)), o 29 (.mov (T 3)), o 30 (.call 92 [(T 26), (T 27), (T 28), (T 29)]), on_ (.store 2 (T 8) (T 30)), o 9 (.mov (B true))]),
    .ret])
theorem ok31 : cfn Tryz.prog Tryz.f31 4 = some (s31, [.cell 8 true 2, .tmp 9]) := by kernel_rfl

/-! 32 spec.UnpackControl -/
def s32 : SCode :=
  (sqs [
    (.reg [o 2 (.mov (I 0)), o 3 (.mov (I 0)), o 4 (.mov (I 0))]),
    (sqs [
      (.reg [o 8 (.mov (T 0)), o 9 (.bin .lss (T 8) (I 0)), o 10 (.mov (T 9)), og 11 (.mov (T 0)) 10 false, og 12 (.bin .gtr (T 11) (I 100000)) 10 false, o 13 (.pick (T 10) (B true) (T 12))]),
      (.cond (T 13)
        (sqs [
          (.reg [o 2 (.mov (I (-1))), o 3 (.mov (I (-1))), o 4 (.mov (I (-1)))]),
          .ret])
        .skip)]),
    (.reg [o 14 (.mov (T 0)), o 15 (.bin .rem (T 14) (I 8)), o 5 (.mov (T 15))]),
    (.reg [o 16 (.mov (T 0)), o 17 (.bin .quo (T 16) (I 8)), o 18 (.bin .rem (T 17) (I 16)), o 6 (.mov (T 18))]),
    (.reg [o 19 (.mov (T 0)), o 20 (.bin .quo (T 19) (I 128)), o 7 (.mov (T 20))]),
    (sqs [
      (.reg [o 21 (.mov (T 5)), o 22 (.mov (T 6)), o 23 (.mov (T 7)), o 24 (.call 62 [(T 21), (T 22), (T 23)]), o 25 (.mov (T 0)), o 26 (.bin .neq (T 24) (T 25))]),
      (.cond (T 26)
        (sqs [
          (.reg [o 2 (.mov (I (-1))), o 3 (.mov (I (-1))), o 4 (.mov (I (-1)))]),
          .ret])
        .skip)]),
    (.reg [o 27 (.mov (T 5)), o 28 (.mov (T 6)), o 29 (.mov (T 7)), o 2 (.mov (T 27)), o 3 (.mov (T 28)), o 4 (.mov (T 29))]),
    .ret])
theorem ok32 : cfn Tryz.prog Tryz.f32 1 = some (s32, [.tmp 2, .tmp 3, .tmp 4]) := by kernel_rfl

/-! 33 impl.TraceCost -/
def s33 : SCode :=
  (sqs [
    (.reg [o 1 (.box 2 (T 0)), o 2 (.mov (I 0))]),
    (.reg [o 3 (.mov (I 0))]),
    (sqs [
      (.reg [o 6 (.fieldAddr 0 (T 1)), o 7 (.load false 1 (T 6)), o 8 (.len (T 7)), o 9 (.mov (I 0))]),
      (.block 0
        (.loop
          (sqs [
            (.reg [o 10 (.bin .lss (T 9) (T 8))]),
            (.cond (T 10)
              .skip
              (.exit 0)),
            (.block 1
              (sqs [
                (.reg [o 11 (.idxAddr 3 (T 7) (T 9)), o 12 (.load true 3 (T 11)), o 5 (.hole 3), o 5 (.birth 3 (T 5) (T 12))]),
                (.reg [o 13 (.mov (T 3)), o 14 (.fieldAddr 0 (T 5)), o 15 (.load false 1 (T 14)), o 16 (.bin .add (T 13) (T 15)), o 3 (.mov (T 16))])])),
            (.reg [o 17 (.bin .add (T 9) (I 1)), o 9 (.mov (T 17))])])))]),
    (.reg [o 18 (.mov (T 3)), o 2 (.mov (T 18))]),
    .ret])
theorem ok33 : cfn Tryz.prog Tryz.f33 1 = some (s33, [.tmp 2]) := by kernel_rfl

/-! 34 impl.TaskBound -/
def s34 : SCode :=
  (sqs [
    (.reg [o 1 (.box 4 (T 0)), o 2 (.mov (I 0))]),
    (sqs [
      (.reg [o 3 (.load true 4 (T 1)), o 4 (.call 93 [(T 3)]), o 5 (.not (T 4))]),
      (.cond (T 5)
        (sqs [
          (.reg [o 2 (.mov (I (-1)))]),
          .ret])
        .skip)]),
    (.regD [o 6 (.fieldAddr 0 (T 1)), ⟨some 7, (.load false 1 (T 6)), none, 1, []⟩, ⟨some 9, (.load true 4 (T 1)), none, 3, []⟩, ⟨some 8, (.call 94 [(T 7)]), none, 0, [3]⟩, o 10 (.call 95 [(T 9)]), o 11 (.len (T 10)), o 12 (.bin .mul (I 9) (T 11)), o 13 (.bin .add (T 8) (T 12)), o 14 (.bin .add (T 13) (I 1)), o 15 (.bin .add (T 14) (I 3)), o 2 (.mov (T 15))]),
    .ret])
theorem ok34 : cfn Tryz.prog Tryz.f34 1 = some (s34, [.tmp 2]) := by kernel_rfl

/-! 35 impl.BootBound -/
def s35 : SCode :=
  (sqs [
    (.reg [o 1 (.box 4 (T 0)), o 2 (.mov (I 0))]),
    (sqs [
      (.reg [o 3 (.load true 4 (T 1)), o 4 (.call 93 [(T 3)]), o 5 (.not (T 4))]),
      (.cond (T 5)
        (sqs [
          (.reg [o 2 (.mov (I (-1)))]),
          .ret])
        .skip)]),
    (.regD [o 6 (.load true 4 (T 1)), ⟨some 8, (.load true 4 (T 1)), none, 2, []⟩, ⟨some 7, (.call 34 [(T 6)]), none, 0, [2]⟩, o 9 (.call 95 [(T 8)]), o 10 (.len (T 9)), o 11 (.call 96 [(T 10)]), o 12 (.bin .add (T 7) (T 11)), o 2 (.mov (T 12))]),
    .ret])
theorem ok35 : cfn Tryz.prog Tryz.f35 1 = some (s35, [.tmp 2]) := by kernel_rfl

/-! 36 impl.BlockBound -/
def s36 : SCode :=
  (sqs [
    (.reg [o 1 (.box 4 (T 0)), o 2 (.mov (I 0))]),
    (sqs [
      (.reg [o 3 (.load true 4 (T 1)), o 4 (.call 93 [(T 3)]), o 5 (.not (T 4))]),
      (.cond (T 5)
        (sqs [
          (.reg [o 2 (.mov (I (-1)))]),
          .ret])
        .skip)]),
    (.reg [o 6 (.fieldAddr 0 (T 1)), o 7 (.load false 1 (T 6)), o 8 (.call 94 [(T 7)]), o 2 (.mov (T 8))]),
    .ret])
theorem ok36 : cfn Tryz.prog Tryz.f36 1 = some (s36, [.tmp 2]) := by kernel_rfl

/-! 37 laws.szProgram -/
def s37 : SCode :=
  (sqs [
    (.reg [o 2 (.box 1 (T 0)), o 4 (.mov (I 0))]),
    (.reg [o 5 (.fieldAddr 0 (T 2)), o 6 (.load false 1 (T 5)), o 7 (.mov (T 1)), o 8 (.call 97 [(T 6), (T 7)]), o 1 (.mov (T 8))]),
    (sqs [
      (.reg [o 9 (.mov (T 1)), o 10 (.bin .lss (T 9) (I 0))]),
      (.cond (T 10)
        (sqs [
          (.reg [o 4 (.mov (I (-1)))]),
          .ret])
        .skip)]),
    (.reg [o 11 (.mov (T 1)), o 4 (.mov (T 11))]),
    .ret])
theorem ok37 : cfn Tryz.prog Tryz.f37 2 = some (s37, [.tmp 4]) := by kernel_rfl

/-! 38 spec.SplitTask -/
def s38 : SCode :=
  (sqs [
    (.reg [o 3 (.box 1 (T 0)), o 6 (.zero [.nils]), o 7 (.mov (B false))]),
    (sqs [
      (.reg [o 8 (.load true 1 (T 3)), o 9 (.call 98 [(T 8)]), o 10 (.not (T 9)), o 11 (.mov (T 10)), og 12 (.mov (T 1)) 11 false, og 13 (.fieldAddr 0 (T 3)) 11 false, og 14 (.load false 1 (T 13)) 11 false, og 15 (.len (T 14)) 11 false, og 16 (.bin .sub (T 15) (I 1)) 11 false, og 17 (.call 99 [(T 12), (I 0), (T 16)]) 11 false, og 18 (.not (T 17)) 11 false, o 19 (.pick (T 11) (B true) (T 18)), o 20 (.mov (T 19)), og 21 (.fieldAddr 0 (T 3)) 20 false, og 22 (.load false 1 (T 21)) 20 false, og 23 (.len (T 22)) 20 false, og 24 (.bin .eql (T 23) (I 6)) 20 false, o 25 (.pick (T 20) (B true) (T 24)), o 26 (.mov (T 25)), og 27 (.fieldAddr 0 (T 3)) 26 false, og 28 (.load false 1 (T 27)) 26 false, og 29 (.mov (T 1)) 26 false, og 30 (.idxAddr 4 (T 28) (T 29)) 26 false, og 31 (.fieldAddr 0 (T 30)) 26 false, og 32 (.load false 1 (T 31)) 26 false, og 33 (.call 26 [(T 32)]) 26 false, og 34 (.mov (T 2)) 26 false, og 35 (.call 100 [(T 33), (T 34)]) 26 false, og 36 (.not (T 35)) 26 false, o 37 (.pick (T 26) (B true) (T 36))]),
      (.cond (T 37)
        (sqs [
          (.reg [o 38 (.load true 1 (T 3)), o 39 (.call 101 [(T 38)]), on_ (.store 1 (T 6) (T 39)), o 7 (.mov (B false))]),
          .ret])
        .skip)]),
    (.reg [o 40 (.load true 1 (T 3)), o 41 (.mov (T 1)), o 42 (.mov (T 2)), o 43 (.call 102 [(T 40), (T 41), (T 42)]), on_ (.store 1 (T 6) (T 43)), o 7 (.mov (B true))]),
    .ret])
theorem ok38 : cfn Tryz.prog Tryz.f38 3 = some (s38, [.cell 6 true 1, .tmp 7]) := by kernel_rfl

/-! 39 laws.toProgram -/
def s39 : SCode :=
  (sqs [
    (.reg [o 1 (.box 1 (T 0)), o 2 (.zero [.nils])]),
    (.reg [o 3 (.zero [.nils])]),
    (.reg [o 4 (.fieldAddr 0 (T 1)), o 5 (.load false 1 (T 4)), o 6 (.call 103 [(T 5)]), o 7 (.fieldAddr 0 (T 3)), on_ (.store 1 (T 7) (T 6))]),
    (.reg [o 8 (.load true 1 (T 3)), on_ (.store 1 (T 2) (T 8))]),
    .ret])
theorem ok39 : cfn Tryz.prog Tryz.f39 1 = some (s39, [.cell 2 true 1]) := by kernel_rfl

/-! 40 laws.eqProgram -/
def s40 : SCode :=
  (sqs [
    (.reg [o 2 (.box 1 (T 0)), o 3 (.box 1 (T 1)), o 4 (.mov (B false))]),
    (sqs [
      (.reg [o 5 (.fieldAddr 0 (T 2)), o 6 (.load false 1 (T 5)), o 7 (.fieldAddr 0 (T 3)), o 8 (.load false 1 (T 7)), o 9 (.call 104 [(T 6), (T 8)]), o 10 (.not (T 9))]),
      (.cond (T 10)
        (sqs [
          (.reg [o 4 (.mov (B false))]),
          .ret])
        .skip)]),
    (.reg [o 4 (.mov (B true))]),
    .ret])
theorem ok40 : cfn Tryz.prog Tryz.f40 2 = some (s40, [.tmp 4]) := by kernel_rfl

/-! 43 spec.IsCertified -/
def s43 : SCode :=
  (sqs [
    (.reg [o 2 (.box 1 (T 0)), o 3 (.box 4 (T 1)), o 4 (.mov (B false))]),
    (sqs [
      (.reg [o 6 (.load true 1 (T 2)), o 7 (.call 107 [(T 6)]), o 8 (.not (T 7)), o 9 (.mov (T 8)), og 10 (.load true 4 (T 3)) 9 false, og 11 (.call 108 [(T 10)]) 9 false, og 12 (.not (T 11)) 9 false, o 13 (.pick (T 9) (B true) (T 12))]),
      (.cond (T 13)
        (sqs [
          (.reg [o 4 (.mov (B false))]),
          .ret])
        .skip)]),
    (sqs [
      (.reg [o 5 (.mov (I 0))]),
      (.block 0
        (.loop
          (sqs [
            (sqs [
              (.reg [o 14 (.mov (T 5)), o 15 (.fieldAddr 0 (T 2)), o 16 (.load false 1 (T 15)), o 17 (.len (T 16)), o 18 (.bin .lss (T 14) (T 17))]),
              (.cond (T 18)
                .skip
                (.exit 0))]),
            (.block 1
              (sqs [
                (.regD [o 21 (.fieldAddr 0 (T 2)), ⟨some 22, (.load false 1 (T 21)), none, 1, []⟩, o 23 (.mov (T 5)), o 24 (.idxAddr 4 (T 22) (T 23)), ⟨some 25, (.load true 4 (T 24)), none, 4, []⟩, o 27 (.fieldAddr 2 (T 3)), ⟨some 28, (.load false 1 (T 27)), none, 7, []⟩, ⟨some 26, (.call 109 [(T 25)]), none, 0, [7]⟩, o 29 (.bin .gtr (T 26) (T 28))]),
                (.cond (T 29)
                  (sqs [
                    (.reg [o 4 (.mov (B false))]),
                    .ret])
                  .skip)])),
            (.reg [o 19 (.mov (T 5)), o 20 (.bin .add (T 19) (I 1)), o 5 (.mov (T 20))])])))]),
    (.reg [o 4 (.mov (B true))]),
    .ret])
theorem ok43 : cfn Tryz.prog Tryz.f43 2 = some (s43, [.tmp 4]) := by kernel_rfl

/-! 44 laws.toStore -/
def s44 : SCode :=
  (sqs [
    (.reg [o 1 (.box 4 (T 0)), o 2 (.zero [(.int .i64 0), (.int .i64 0), (.int .i64 0), (.int .i64 0)])]),
    (.reg [o 3 (.zero [(.int .i64 0), (.int .i64 0), (.int .i64 0), (.int .i64 0)])]),
    (.reg [o 4 (.fieldAddr 0 (T 1)), o 5 (.load false 1 (T 4)), o 6 (.fieldAddr 0 (T 3)), on_ (.store 1 (T 6) (T 5))]),
    (.reg [o 7 (.fieldAddr 1 (T 1)), o 8 (.load false 1 (T 7)), o 9 (.fieldAddr 1 (T 3)), on_ (.store 1 (T 9) (T 8))]),
    (.reg [o 10 (.fieldAddr 2 (T 1)), o 11 (.load false 1 (T 10)), o 12 (.fieldAddr 2 (T 3)), on_ (.store 1 (T 12) (T 11))]),
    (.reg [o 13 (.fieldAddr 3 (T 1)), o 14 (.load false 1 (T 13)), o 15 (.fieldAddr 3 (T 3)), on_ (.store 1 (T 15) (T 14))]),
    (.reg [o 16 (.load true 4 (T 3)), on_ (.store 4 (T 2) (T 16))]),
    .ret])
theorem ok44 : cfn Tryz.prog Tryz.f44 1 = some (s44, [.cell 2 true 4]) := by kernel_rfl

/-! 45 spec.DrawEnergies -/
def s45 : SCode :=
  (sqs [
    (.reg [o 2 (.mov N)]),
    (.reg [o 3 (.mov (T 0)), o 4 (.call 59 [(T 3)]), o 5 (.call 110 [(T 4)]), o 2 (.mov (T 5))]),
    .ret])
theorem ok45 : cfn Tryz.prog Tryz.f45 1 = some (s45, [.tmp 2]) := by kernel_rfl

/-! 46 impl.RunBoots -/
def s46 : SCode :=
  (sqs [
    (.reg [o 4 (.box 1 (T 0)), o 8 (.zero [.nils, (.int .i64 0), .nils, .nils]), o 9 (.mov (B false))]),
    (sqs [
      (.reg [o 14 (.load true 1 (T 4)), o 15 (.mov (T 1)), o 16 (.mov (T 2)), o 17 (.call 111 [(T 14), (T 15), (T 16), (I 0)]), o 18 (.not (T 17)), o 19 (.mov (T 18)), og 20 (.mov (T 3)) 19 false, og 21 (.len (T 20)) 19 false, og 22 (.bin .gtr (T 21) (I 60)) 19 false, o 23 (.pick (T 19) (B true) (T 22)), o 24 (.mov (T 23)), og 25 (.mov (T 3)) 24 false, og 26 (.call 112 [(T 25), (.val (.fn 113 []))]) 24 false, o 27 (.pick (T 24) (B true) (T 26))]),
      (.cond (T 27)
        (sqs [
          (.reg [o 28 (.build [.nils, (.int .i64 0), .nils, .nils] []), on_ (.store 4 (T 8) (T 28)), o 9 (.mov (B false))]),
          .ret])
        .skip)]),
    (.reg [o 29 (.mov (T 1)), o 30 (.call 115 [(T 29)]), o 31 (.build [.nils, (.int .i64 0), .nils, .nils] [(0, 1, (T 30))]), o 10 (.hole 4), o 10 (.birth 4 (T 10) (T 31))]),
    (sqs [
      (.reg [o 32 (.mov (T 3)), o 33 (.len (T 32)), o 34 (.mov (I 0))]),
      (.block 0
        (.loop
          (sqs [
            (.reg [o 35 (.bin .lss (T 34) (T 33))]),
            (.cond (T 35)
              .skip
              (.exit 0)),
            (.block 1
              (sqs [
                (.reg [o 36 (.idxAddr 1 (T 32) (T 34)), o 37 (.load false 1 (T 36)), o 12 (.mov (T 37))]),
                (.reg [o 38 (.load true 1 (T 4)), o 39 (.fieldAddr 0 (T 10)), o 40 (.load false 1 (T 39)), o 41 (.mov (T 2)), o 42 (.fieldAddr 1 (T 10)), o 43 (.load false 1 (T 42)), o 44 (.mov (T 12)), o 45 (.call 116 [(T 38), (T 40), (T 41), (T 43), (T 44)]), o 13 (.hole 4), o 13 (.birth 4 (T 13) (T 45))]),
                (.regD [o 46 (.fieldAddr 0 (T 13)), ⟨some 47, (.load false 1 (T 46)), none, 1, []⟩, o 48 (.fieldAddr 1 (T 13)), ⟨some 49, (.load false 1 (T 48)), none, 3, []⟩, o 50 (.fieldAddr 0 (T 10)), ⟨none, (.store 1 (T 50) (T 47)), none, 0, [3]⟩, o 51 (.fieldAddr 1 (T 10)), on_ (.store 1 (T 51) (T 49))]),
                (.reg [o 52 (.fieldAddr 2 (T 10)), o 53 (.load false 1 (T 52)), o 54 (.fieldAddr 2 (T 13)), o 55 (.load false 1 (T 54)), o 56 (.append 1 24 (T 53) (T 55)), o 57 (.fieldAddr 2 (T 10)), on_ (.store 1 (T 57) (T 56))]),
                (.reg [o 58 (.fieldAddr 3 (T 10)), o 59 (.load false 1 (T 58)), o 60 (.fieldAddr 2 (T 13)), o 61 (.load false 1 (T 60)), o 62 (.len (T 61)), o 63 (.lit 1 1 [(.int .i64 0)] [(0, (T 62))]), o 64 (.append 1 8 (T 59) (T 63)), o 65 (.fieldAddr 3 (T 10)), on_ (.store 1 (T 65) (T 64))])])),
            (.reg [o 66 (.bin .add (T 34) (I 1)), o 34 (.mov (T 66))])])))]),
    (.reg [o 67 (.load true 4 (T 10)), on_ (.store 4 (T 8) (T 67)), o 9 (.mov (B true))]),
    .ret])
theorem ok46 : cfn Tryz.prog Tryz.f46 4 = some (s46, [.cell 8 true 4, .tmp 9]) := by kernel_rfl

/-! 47 impl.BootOnce -/
def s47 : SCode :=
  (sqs [
    (.reg [o 5 (.box 1 (T 0)), o 10 (.zero [.nils, (.int .i64 0), .nils, (.int .i64 0)]), o 11 (.mov (B false))]),
    (sqs [
      (.reg [o 12 (.load true 1 (T 5)), o 13 (.mov (T 1)), o 14 (.mov (T 2)), o 15 (.mov (T 3)), o 16 (.call 111 [(T 12), (T 13), (T 14), (T 15)]), o 17 (.not (T 16)), o 18 (.mov (T 17)), og 19 (.mov (T 4)) 18 false, og 20 (.call 114 [(T 19), (I 0), (I 100000)]) 18 false, og 21 (.not (T 20)) 18 false, o 22 (.pick (T 18) (B true) (T 21))]),
      (.cond (T 22)
        (sqs [
          (.reg [o 23 (.build [.nils, (.int .i64 0), .nils, (.int .i64 0)] []), on_ (.store 4 (T 10) (T 23)), o 11 (.mov (B false))]),
          .ret])
        .skip)]),
    (.reg [o 24 (.load true 1 (T 5)), o 25 (.mov (T 1)), o 26 (.mov (T 2)), o 27 (.mov (T 3)), o 28 (.mov (T 4)), o 29 (.call 116 [(T 24), (T 25), (T 26), (T 27), (T 28)]), on_ (.store 4 (T 10) (T 29)), o 11 (.mov (B true))]),
    .ret])
theorem ok47 : cfn Tryz.prog Tryz.f47 5 = some (s47, [.cell 10 true 4, .tmp 11]) := by kernel_rfl

/-! 48 impl.BootTasks -/
def s48 : SCode :=
  (sqs [
    (.reg [o 1 (.box 4 (T 0)), o 2 (.mov (I 0))]),
    (.reg [o 3 (.fieldAddr 2 (T 1)), o 4 (.load false 1 (T 3)), o 5 (.len (T 4)), o 2 (.mov (T 5))]),
    .ret])
theorem ok48 : cfn Tryz.prog Tryz.f48 1 = some (s48, [.tmp 2]) := by kernel_rfl

/-! 49 spec.SlackOf -/
def s49 : SCode :=
  (sqs [
    (.reg [o 2 (.box 1 (T 0)), o 3 (.box 4 (T 1)), o 4 (.mov (I 0))]),
    (sqs [
      (.reg [o 7 (.load true 1 (T 2)), o 8 (.load true 4 (T 3)), o 9 (.call 43 [(T 7), (T 8)]), o 10 (.not (T 9))]),
      (.cond (T 10)
        (sqs [
          (.reg [o 4 (.mov (I (-1)))]),
          .ret])
        .skip)]),
    (.reg [o 5 (.mov (I 0))]),
    (sqs [
      (.reg [o 6 (.mov (I 0))]),
      (.block 0
        (.loop
          (sqs [
            (sqs [
              (.reg [o 11 (.mov (T 6)), o 12 (.fieldAddr 0 (T 2)), o 13 (.load false 1 (T 12)), o 14 (.len (T 13)), o 15 (.bin .lss (T 11) (T 14))]),
              (.cond (T 15)
                .skip
                (.exit 0))]),
            (.block 1
              (.reg [o 18 (.mov (T 5)), o 19 (.fieldAddr 0 (T 2)), o 20 (.load false 1 (T 19)), o 21 (.mov (T 6)), o 22 (.idxAddr 4 (T 20) (T 21)), o 23 (.load true 4 (T 22)), o 24 (.call 109 [(T 23)]), o 25 (.max (T 18) (T 24)), o 5 (.mov (T 25))])),
            (.reg [o 16 (.mov (T 6)), o 17 (.bin .add (T 16) (I 1)), o 6 (.mov (T 17))])])))]),
    (.reg [o 26 (.fieldAddr 2 (T 3)), o 27 (.load false 1 (T 26)), o 28 (.mov (T 5)), o 29 (.bin .sub (T 27) (T 28)), o 4 (.mov (T 29))]),
    .ret])
theorem ok49 : cfn Tryz.prog Tryz.f49 2 = some (s49, [.tmp 4]) := by kernel_rfl

/-! 59 spec.l01New -/
def s59 : SCode :=
  (sqs [
    (.reg [o 2 (.mov (.val .nilp))]),
    (.reg [o 5 (.mov (T 0)), o 6 (.len (T 5)), o 7 (.bin .add (I 98347) (T 6)), o 3 (.mov (T 7))]),
    (sqs [
      (.reg [o 4 (.mov (I 0))]),
      (.block 0
        (.loop
          (sqs [
            (sqs [
              (.reg [o 8 (.mov (T 4)), o 9 (.mov (T 0)), o 10 (.len (T 9)), o 11 (.bin .lss (T 8) (T 10)), o 12 (.mov (T 11)), og 13 (.mov (T 4)) 12 true, og 14 (.bin .lss (T 13) (I 4000)) 12 true, o 15 (.pick (T 12) (T 14) (B false))]),
              (.cond (T 15)
                .skip
                (.exit 0))]),
            (.block 1
              (.reg [o 18 (.mov (T 3)), o 19 (.bin .mul (T 18) (I 131)), o 20 (.mov (T 0)), o 21 (.mov (T 4)), o 22 (.idxAddr 1 (T 20) (T 21)), o 23 (.load false 1 (T 22)), o 24 (.conv .i64 (T 23)), o 25 (.bin .add (T 19) (T 24)), o 26 (.bin .add (T 25) (I 7)), o 27 (.bin .and (T 26) (I 1073741823)), o 3 (.mov (T 27))])),
            (.reg [o 16 (.mov (T 4)), o 17 (.bin .add (T 16) (I 1)), o 4 (.mov (T 17))])])))]),
    (.reg [o 28 (.mov (T 0)), o 29 (.mov (T 3)), o 30 (.build [.nils, (.int .i64 0), (.int .i64 0)] [(0, 1, (T 28)), (2, 1, (T 29))]), o 31 (.box 3 (T 30)), o 2 (.mov (T 31))]),
    .ret])
theorem ok59 : cfn Tryz.prog Tryz.f59 1 = some (s59, [.tmp 2]) := by kernel_rfl

/-! 60 spec.l06Program -/
def s60 : SCode :=
  (sqs [
    (.reg [o 2 (.zero [.nils])]),
    (.reg [o 5 (.build [.nils] []), o 3 (.hole 1), o 3 (.birth 1 (T 3) (T 5))]),
    (sqs [
      (.reg [o 4 (.mov (I 0))]),
      (.block 0
        (.loop
          (sqs [
            (sqs [
              (.reg [o 6 (.mov (T 4)), o 7 (.mov (T 0)), o 8 (.call 74 [(T 7), (I 3)]), o 9 (.bin .add (I 1) (T 8)), o 10 (.bin .lss (T 6) (T 9))]),
              (.cond (T 10)
                .skip
                (.exit 0))]),
            (.block 1
              (.regD [o 13 (.fieldAddr 0 (T 3)), ⟨some 14, (.load false 1 (T 13)), none, 1, []⟩, o 15 (.mov (T 0)), o 17 (.mov (T 0)), ⟨some 16, (.call 126 [(T 15)]), none, 0, [1]⟩, ⟨some 18, (.call 127 [(T 17)]), none, 0, [1]⟩, o 19 (.build [.nils, (.int .i64 0), (.int .i64 0), (.int .i64 0)] [(0, 1, (T 16)), (1, 3, (T 18))]), ⟨some 20, (.lit 1 4 [.nils, (.int .i64 0), (.int .i64 0), (.int .i64 0)] [(0, (T 19))]), none, 0, [1]⟩, o 21 (.append 4 48 (T 14) (T 20)), o 22 (.fieldAddr 0 (T 3)), on_ (.store 1 (T 22) (T 21))])),
            (.reg [o 11 (.mov (T 4)), o 12 (.bin .add (T 11) (I 1)), o 4 (.mov (T 12))])])))]),
    (.reg [o 23 (.load true 1 (T 3)), on_ (.store 1 (T 2) (T 23))]),
    .ret])
theorem ok60 : cfn Tryz.prog Tryz.f60 1 = some (s60, [.cell 2 true 1]) := by kernel_rfl

/-! 61 spec.l09Mem -/
def s61 : SCode :=
  (sqs [
    (.reg [o 3 (.box 1 (T 1)), o 4 (.mov N)]),
    (.reg [o 12 (.mov (T 0)), o 13 (.call 73 [(T 12)]), o 14 (.call 128 [(T 13)]), o 11 (.mov (T 14)), o 15 (.ext 0 (T 11)), o 16 (.ext 1 (T 11)), o 5 (.mov (T 15)), o 6 (.mov (T 16))]),
    (.reg [o 17 (.mov (T 0)), o 18 (.call 74 [(T 17), (I 5)]), o 7 (.mov (T 18))]),
    (sqs [
      (.reg [o 8 (.mov (I 0))]),
      (.block 0
        (.loop
          (sqs [
            (sqs [
              (.reg [o 19 (.mov (T 8)), o 20 (.mov (T 7)), o 21 (.bin .lss (T 19) (T 20))]),
              (.cond (T 21)
                .skip
                (.exit 0))]),
            (.block 1
              (.reg [o 24 (.mov (T 5)), o 25 (.mov (T 8)), o 26 (.bin .add (I 25) (T 25)), o 27 (.mov (T 0)), o 28 (.call 74 [(T 27), (I 500)]), o 29 (.idxAddr 1 (T 24) (T 26)), on_ (.store 1 (T 29) (T 28))])),
            (.reg [o 22 (.mov (T 8)), o 23 (.bin .add (T 22) (I 1)), o 8 (.mov (T 23))])])))]),
    (.reg [o 30 (.mov (T 0)), o 31 (.call 74 [(T 30), (I 2)]), o 32 (.mov (T 0)), o 33 (.call 74 [(T 32), (I 4)]), o 34 (.bin .mul (T 31) (T 33)), o 9 (.mov (T 34))]),
    (sqs [
      (.reg [o 10 (.mov (I 0))]),
      (.block 2
        (.loop
          (sqs [
            (sqs [
              (.reg [o 35 (.mov (T 10)), o 36 (.mov (T 9)), o 37 (.bin .lss (T 35) (T 36))]),
              (.cond (T 37)
                .skip
                (.exit 2))]),
            (.block 3
              (sqs [
                (.reg [o 40 (.mov (T 5)), o 41 (.mov (T 10)), o 42 (.bin .mul (I 2) (T 41)), o 43 (.bin .add (I 9) (T 42)), o 44 (.mov (T 10)), o 45 (.idxAddr 1 (T 40) (T 43)), on_ (.store 1 (T 45) (T 44))]),
                (.reg [o 46 (.mov (T 5)), o 47 (.mov (T 10)), o 48 (.bin .mul (I 2) (T 47)), o 49 (.bin .add (I 9) (T 48)), o 50 (.bin .add (T 49) (I 1)), o 51 (.mov (T 0)), o 52 (.call 74 [(T 51), (I 900)]), o 53 (.idxAddr 1 (T 46) (T 50)), on_ (.store 1 (T 53) (T 52))])])),
            (.reg [o 38 (.mov (T 10)), o 39 (.bin .add (T 38) (I 1)), o 10 (.mov (T 39))])])))]),
    (.reg [o 54 (.mov (T 5)), o 55 (.mov (T 0)), o 56 (.fieldAddr 0 (T 3)), o 57 (.load false 1 (T 56)), o 58 (.len (T 57)), o 59 (.call 74 [(T 55), (T 58)]), o 60 (.mov (T 9)), o 61 (.mov (T 7)), o 62 (.call 62 [(T 59), (T 60), (T 61)]), o 63 (.idxAddr 1 (T 54) (I 8)), on_ (.store 1 (T 63) (T 62))]),
    (.reg [o 64 (.mov (T 5)), o 4 (.mov (T 64))]),
    .ret])
theorem ok61 : cfn Tryz.prog Tryz.f61 2 = some (s61, [.tmp 4]) := by kernel_rfl

/-! 62 spec.PackControl -/
def s62 : SCode :=
  (sqs [
    (.reg [o 6 (.mov (I 0))]),
    (sqs [
      (.reg [o 7 (.mov (T 0)), o 8 (.call 99 [(T 7), (I 0), (I 5)]), o 9 (.not (T 8)), o 10 (.mov (T 9)), og 11 (.mov (T 1)) 10 false, og 12 (.call 99 [(T 11), (I 0), (I 8)]) 10 false, og 13 (.not (T 12)) 10 false, o 14 (.pick (T 10) (B true) (T 13)), o 15 (.mov (T 14)), og 16 (.mov (T 2)) 15 false, og 17 (.call 99 [(T 16), (I 0), (I 24)]) 15 false, og 18 (.not (T 17)) 15 false, o 19 (.pick (T 15) (B true) (T 18))]),
      (.cond (T 19)
        (sqs [
          (.reg [o 6 (.mov (I (-1)))]),
          .ret])
        .skip)]),
    (.reg [o 20 (.mov (T 0)), o 21 (.mov (T 1)), o 22 (.mov (T 2)), o 23 (.bin .mul (I 16) (T 22)), o 24 (.bin .add (T 21) (T 23)), o 25 (.bin .mul (I 8) (T 24)), o 26 (.bin .add (T 20) (T 25)), o 6 (.mov (T 26))]),
    .ret])
theorem ok62 : cfn Tryz.prog Tryz.f62 3 = some (s62, [.tmp 6]) := by kernel_rfl

/-! 63 spec.l23Store -/
def s63 : SCode :=
  (sqs [
    (.reg [o 3 (.box 1 (T 1)), o 4 (.zero [(.int .i64 0), (.int .i64 0), (.int .i64 0), (.int .i64 0)])]),
    (.reg [o 5 (.mov (I 1))]),
    (sqs [
      (.reg [o 6 (.mov (I 0))]),
      (.block 0
        (.loop
          (sqs [
            (sqs [
              (.reg [o 7 (.mov (T 6)), o 8 (.fieldAddr 0 (T 3)), o 9 (.load false 1 (T 8)), o 10 (.len (T 9)), o 11 (.bin .lss (T 7) (T 10))]),
              (.cond (T 11)
                .skip
                (.exit 0))]),
            (.block 1
              (.reg [o 14 (.mov (T 5)), o 15 (.fieldAddr 0 (T 3)), o 16 (.load false 1 (T 15)), o 17 (.mov (T 6)), o 18 (.idxAddr 4 (T 16) (T 17)), o 19 (.load true 4 (T 18)), o 20 (.call 109 [(T 19)]), o 21 (.max (T 14) (T 20)), o 5 (.mov (T 21))])),
            (.reg [o 12 (.mov (T 6)), o 13 (.bin .add (T 12) (I 1)), o 6 (.mov (T 13))])])))]),
    (.reg [o 22 (.mov (T 5)), o 23 (.mov (T 0)), o 24 (.call 74 [(T 23), (I 20)]), o 25 (.bin .add (T 22) (T 24)), o 26 (.min (T 25) (I 5000)), o 5 (.mov (T 26))]),
    (.reg [o 27 (.mov (T 5)), o 28 (.mov (T 0)), o 29 (.call 74 [(T 28), (I 50)]), o 30 (.bin .add (T 27) (T 29)), o 31 (.min (T 30) (I 5000)), o 32 (.mov (T 5)), o 33 (.mov (T 0)), o 34 (.call 74 [(T 33), (I 3)]), o 35 (.build [(.int .i64 0), (.int .i64 0), (.int .i64 0), (.int .i64 0)] [(1, 1, (T 31)), (2, 1, (T 32)), (3, 1, (T 34))]), on_ (.store 4 (T 4) (T 35))]),
    .ret])
theorem ok63 : cfn Tryz.prog Tryz.f63 2 = some (s63, [.cell 4 true 4]) := by kernel_rfl

/-! 64 spec.l23Harvest -/
def s64 : SCode :=
  (sqs [
    (.reg [o 2 (.mov N)]),
    (.reg [o 5 (.lit 0 1 [(.int .i64 0)] []), o 3 (.mov (T 5))]),
    (sqs [
      (.reg [o 4 (.mov (I 0))]),
      (.block 0
        (.loop
          (sqs [
            (sqs [
              (.reg [o 6 (.mov (T 4)), o 7 (.mov (T 0)), o 8 (.call 74 [(T 7), (I 12)]), o 9 (.bin .lss (T 6) (T 8))]),
              (.cond (T 9)
                .skip
                (.exit 0))]),
            (.block 1
              (.reg [o 12 (.mov (T 3)), o 13 (.mov (T 0)), o 14 (.lit 4 1 [(.int .i64 0)] [(0, (I 0)), (1, (I 20)), (2, (I 100)), (3, (I 400))]), o 15 (.call 129 [(T 13), (T 14)]), o 16 (.lit 1 1 [(.int .i64 0)] [(0, (T 15))]), o 17 (.append 1 8 (T 12) (T 16)), o 3 (.mov (T 17))])),
            (.reg [o 10 (.mov (T 4)), o 11 (.bin .add (T 10) (I 1)), o 4 (.mov (T 11))])])))]),
    (.reg [o 18 (.mov (T 3)), o 2 (.mov (T 18))]),
    .ret])
theorem ok64 : cfn Tryz.prog Tryz.f64 1 = some (s64, [.tmp 2]) := by kernel_rfl

/-! 65 spec.l12Readings -/
def s65 : SCode :=
  (sqs [
    (.reg [o 2 (.mov N)]),
    (.reg [o 5 (.lit 0 1 [(.int .i64 0)] []), o 3 (.mov (T 5))]),
    (sqs [
      (.reg [o 4 (.mov (I 0))]),
      (.block 0
        (.loop
          (sqs [
            (sqs [
              (.reg [o 6 (.mov (T 4)), o 7 (.mov (T 0)), o 8 (.call 74 [(T 7), (I 9)]), o 9 (.bin .add (I 1) (T 8)), o 10 (.bin .lss (T 6) (T 9))]),
              (.cond (T 10)
                .skip
                (.exit 0))]),
            (.block 1
              (.reg [o 13 (.mov (T 3)), o 14 (.mov (T 0)), o 15 (.call 74 [(T 14), (I 800)]), o 16 (.bin .sub (T 15) (I 200)), o 17 (.lit 1 1 [(.int .i64 0)] [(0, (T 16))]), o 18 (.append 1 8 (T 13) (T 17)), o 3 (.mov (T 18))])),
            (.reg [o 11 (.mov (T 4)), o 12 (.bin .add (T 11) (I 1)), o 4 (.mov (T 12))])])))]),
    (.reg [o 19 (.mov (T 3)), o 2 (.mov (T 19))]),
    .ret])
theorem ok65 : cfn Tryz.prog Tryz.f65 1 = some (s65, [.tmp 2]) := by kernel_rfl

/-! 66 impl.EnergiesOf -/
def s66 : SCode :=
  (sqs [
    (.reg [o 2 (.box 4 (T 0)), o 4 (.mov N), o 5 (.mov (B false))]),
    (.reg [o 10 (.load true 4 (T 2)), o 11 (.mov (T 1)), o 12 (.call 130 [(T 10), (T 11)]), o 9 (.mov (T 12)), o 13 (.ext 0 (T 9)), o 14 (.ext 1 (T 9)), o 15 (.ext 2 (T 9)), o 6 (.mov (T 13)), o 7 (.mov (T 14)), o 8 (.mov (T 15))]),
    (.reg [o 16 (.mov (T 6)), o 17 (.mov (T 8)), o 4 (.mov (T 16)), o 5 (.mov (T 17))]),
    .ret])
theorem ok66 : cfn Tryz.prog Tryz.f66 2 = some (s66, [.tmp 4, .tmp 5]) := by kernel_rfl

/-! 67 impl.ProgramOk -/
def s67 : SCode :=
  (sqs [
    (.reg [o 1 (.box 1 (T 0)), o 2 (.mov (B false))]),
    (.reg [o 3 (.fieldAddr 0 (T 1)), o 4 (.load false 1 (T 3)), o 5 (.len (T 4)), o 6 (.call 114 [(T 5), (I 1), (I 6)]), o 7 (.mov (T 6)), og 8 (.fieldAddr 0 (T 1)) 7 true, og 9 (.load false 1 (T 8)) 7 true, og 10 (.call 69 [(T 9), (.val (.fn 131 []))]) 7 true, og 11 (.not (T 10)) 7 true, o 12 (.pick (T 7) (T 11) (B false)), o 2 (.mov (T 12))]),
    .ret])
theorem ok67 : cfn Tryz.prog Tryz.f67 1 = some (s67, [.tmp 2]) := by kernel_rfl

/-! 68 impl.StoreOk -/
def s68 : SCode :=
  (sqs [
    (.reg [o 1 (.box 4 (T 0)), o 2 (.mov (B false))]),
    (.reg [o 3 (.fieldAddr 1 (T 1)), o 4 (.load false 1 (T 3)), o 5 (.call 114 [(T 4), (I 1), (I 5000)]), o 6 (.mov (T 5)), og 7 (.fieldAddr 0 (T 1)) 6 true, og 8 (.load false 1 (T 7)) 6 true, og 9 (.fieldAddr 1 (T 1)) 6 true, og 10 (.load false 1 (T 9)) 6 true, og 11 (.call 114 [(T 8), (I 0), (T 10)]) 6 true, o 12 (.pick (T 6) (T 11) (B false)), o 13 (.mov (T 12)), og 14 (.fieldAddr 2 (T 1)) 13 true, og 15 (.load false 1 (T 14)) 13 true, og 16 (.fieldAddr 1 (T 1)) 13 true, og 17 (.load false 1 (T 16)) 13 true, og 18 (.call 114 [(T 15), (I 1), (T 17)]) 13 true, o 19 (.pick (T 13) (T 18) (B false)), o 20 (.mov (T 19)), og 21 (.fieldAddr 3 (T 1)) 20 true, og 22 (.load false 1 (T 21)) 20 true, og 23 (.call 114 [(T 22), (I 0), (I 100)]) 20 true, o 24 (.pick (T 20) (T 23) (B false)), o 2 (.mov (T 24))]),
    .ret])
theorem ok68 : cfn Tryz.prog Tryz.f68 1 = some (s68, [.tmp 2]) := by kernel_rfl

/-! 69 slices.ContainsFunc[[]impl.Task,impl.Task] -/
def s69 : SCode :=
  (sqs [
    (.reg [o 4 (.mov (B false))]),
    (.reg [o 5 (.mov (T 0)), o 6 (.mov (T 1)), o 7 (.call 118 [(T 5), (T 6)]), o 8 (.bin .geq (T 7) (I 0)), o 4 (.mov (T 8))]),
    .ret])
theorem ok69 : cfn Tryz.prog Tryz.f69 2 = some (s69, [.tmp 4]) := by kernel_rfl

/-! 70 impl.IsCertified$1 -/
def s70 : SCode :=
  (sqs [
    (.reg [o 2 (.box 4 (T 0)), o 3 (.mov (B false))]),
    (.regD [o 4 (.load true 4 (T 2)), o 6 (.fieldAddr 2 (T 1)), ⟨some 7, (.load false 1 (T 6)), none, 3, []⟩, ⟨some 5, (.call 35 [(T 4)]), none, 0, [3]⟩, o 8 (.bin .gtr (T 5) (T 7)), o 3 (.mov (T 8))]),
    .ret])
theorem ok70 : cfn Tryz.prog Tryz.f70 2 = some (s70, [.tmp 3]) := by kernel_rfl

/-! 71 impl.bit -/
def s71 : SCode :=
  (sqs [
    (.reg [o 2 (.mov (I 0))]),
    (sqs [
      (.reg [o 3 (.mov (T 0))]),
      (.cond (T 3)
        (sqs [
          (.reg [o 2 (.mov (I 1))]),
          .ret])
        .skip)]),
    (.reg [o 2 (.mov (I 0))]),
    .ret])
theorem ok71 : cfn Tryz.prog Tryz.f71 1 = some (s71, [.tmp 2]) := by kernel_rfl

/-! 73 spec.l03Vars -/
def s73 : SCode :=
  (sqs [
    (.reg [o 2 (.mov N)]),
    (.reg [o 5 (.lit 0 1 [(.int .i64 0)] []), o 3 (.mov (T 5))]),
    (sqs [
      (.reg [o 4 (.mov (I 0))]),
      (.block 0
        (.loop
          (sqs [
            (sqs [
              (.reg [o 6 (.mov (T 4)), o 7 (.bin .lss (T 6) (I 8))]),
              (.cond (T 7)
                .skip
                (.exit 0))]),
            (.block 1
              (.reg [o 10 (.mov (T 3)), o 11 (.mov (T 0)), o 12 (.mov (T 0)), o 13 (.call 74 [(T 12), (I 2000)]), o 14 (.bin .sub (T 13) (I 1000)), o 15 (.lit 6 1 [(.int .i64 0)] [(0, (I 0)), (1, (I 1)), (2, (I 2)), (3, (I 5)), (4, (T 14)), (5, (I 1000000))]), o 16 (.call 129 [(T 11), (T 15)]), o 17 (.lit 1 1 [(.int .i64 0)] [(0, (T 16))]), o 18 (.append 1 8 (T 10) (T 17)), o 3 (.mov (T 18))])),
            (.reg [o 8 (.mov (T 4)), o 9 (.bin .add (T 8) (I 1)), o 4 (.mov (T 9))])])))]),
    (.reg [o 19 (.mov (T 3)), o 2 (.mov (T 19))]),
    .ret])
theorem ok73 : cfn Tryz.prog Tryz.f73 1 = some (s73, [.tmp 2]) := by kernel_rfl

/-! 74 spec.l01Below -/
def s74 : SCode :=
  (sqs [
    (.reg [o 4 (.mov (I 0))]),
    (sqs [
      (.reg [o 9 (.mov (T 1)), o 10 (.bin .leq (T 9) (I 0))]),
      (.cond (T 10)
        (sqs [
          (.reg [o 4 (.mov (I 0))]),
          .ret])
        .skip)]),
    (sqs [
      (.reg [o 11 (.mov (T 1)), o 12 (.bin .leq (T 11) (I 256))]),
      (.cond (T 12)
        (sqs [
          (.reg [o 13 (.mov (T 0)), o 14 (.call 132 [(T 13)]), o 15 (.mov (T 1)), o 16 (.bin .rem (T 14) (T 15)), o 4 (.mov (T 16))]),
          .ret])
        .skip)]),
    (.reg [o 17 (.mov (T 0)), o 18 (.call 132 [(T 17)]), o 5 (.mov (T 18))]),
    (.reg [o 19 (.mov (T 0)), o 20 (.call 132 [(T 19)]), o 6 (.mov (T 20))]),
    (.reg [o 21 (.mov (T 0)), o 22 (.call 132 [(T 21)]), o 7 (.mov (T 22))]),
    (.reg [o 23 (.mov (T 0)), o 24 (.call 132 [(T 23)]), o 8 (.mov (T 24))]),
    (.reg [o 25 (.mov (T 5)), o 26 (.bin .mul (T 25) (I 16777216)), o 27 (.mov (T 6)), o 28 (.bin .mul (T 27) (I 65536)), o 29 (.bin .add (T 26) (T 28)), o 30 (.mov (T 7)), o 31 (.bin .mul (T 30) (I 256)), o 32 (.bin .add (T 29) (T 31)), o 33 (.mov (T 8)), o 34 (.bin .add (T 32) (T 33)), o 35 (.mov (T 1)), o 36 (.bin .rem (T 34) (T 35)), o 4 (.mov (T 36))]),
    .ret])
theorem ok74 : cfn Tryz.prog Tryz.f74 2 = some (s74, [.tmp 4]) := by kernel_rfl

/-! 75 impl.BlockOk -/
def s75 : SCode :=
  (sqs [
    (.reg [o 2 (.mov (B false))]),
    (.reg [o 3 (.mov (I 0))]),
    (sqs [
      (.reg [o 6 (.mov (T 0)), o 7 (.len (T 6)), o 8 (.mov (I 0))]),
      (.block 0
        (.loop
          (sqs [
            (.reg [o 9 (.bin .lss (T 8) (T 7))]),
            (.cond (T 9)
              .skip
              (.exit 0)),
            (.block 1
              (sqs [
                (.reg [o 10 (.idxAddr 6 (T 6) (T 8)), o 11 (.load true 6 (T 10)), o 5 (.hole 6), o 5 (.birth 6 (T 5) (T 11))]),
                (sqs [
                  (.reg [o 12 (.load true 6 (T 5)), o 13 (.call 133 [(T 12)]), o 14 (.not (T 13))]),
                  (.cond (T 14)
                    (sqs [
                      (.reg [o 2 (.mov (B false))]),
                      .ret])
                    .skip)]),
                (sqs [
                  (.reg [o 15 (.fieldAddr 0 (T 5)), o 16 (.load false 1 (T 15)), o 17 (.call 134 [(T 16)])]),
                  (.cond (T 17)
                    (.reg [o 18 (.mov (T 3)), o 19 (.bin .add (T 18) (I 1)), o 3 (.mov (T 19))])
                    .skip)]),
                (sqs [
                  (.reg [o 20 (.fieldAddr 0 (T 5)), o 21 (.load false 1 (T 20)), o 22 (.bin .eql (T 21) (I 6))]),
                  (.cond (T 22)
                    (.reg [o 23 (.mov (T 3)), o 24 (.bin .sub (T 23) (I 1)), o 3 (.mov (T 24))])
                    .skip)]),
                (.reg [o 25 (.mov (T 3)), o 26 (.bin .lss (T 25) (I 0)), o 27 (.mov (T 26)), og 28 (.mov (T 3)) 27 false, og 29 (.bin .gtr (T 28) (I 3)) 27 false, o 30 (.pick (T 27) (B true) (T 29))]),
                (.cond (T 30)
                  (sqs [
                    (.reg [o 2 (.mov (B false))]),
                    .ret])
                  .skip)])),
            (.reg [o 31 (.bin .add (T 8) (I 1)), o 8 (.mov (T 31))])])))]),
    (.reg [o 32 (.mov (T 3)), o 33 (.bin .eql (T 32) (I 0)), o 34 (.mov (T 33)), og 35 (.mov (T 0)) 34 true, og 36 (.len (T 35)) 34 true, og 37 (.bin .leq (T 36) (I 24)) 34 true, o 38 (.pick (T 34) (T 37) (B false)), o 2 (.mov (T 38))]),
    .ret])
theorem ok75 : cfn Tryz.prog Tryz.f75 1 = some (s75, [.tmp 2]) := by kernel_rfl

/-! 76 impl.DepthOf -/
def s76 : SCode :=
  (sqs [
    (.reg [o 4 (.mov (I 0))]),
    (sqs [
      (.reg [o 8 (.mov (T 0)), o 9 (.call 75 [(T 8)]), o 10 (.not (T 9)), o 11 (.mov (T 10)), og 12 (.mov (T 1)) 11 false, og 13 (.mov (T 0)) 11 false, og 14 (.len (T 13)) 11 false, og 15 (.bin .sub (T 14) (I 1)) 11 false, og 16 (.call 114 [(T 12), (I 0), (T 15)]) 11 false, og 17 (.not (T 16)) 11 false, o 18 (.pick (T 11) (B true) (T 17))]),
      (.cond (T 18)
        (sqs [
          (.reg [o 4 (.mov (I (-1)))]),
          .ret])
        .skip)]),
    (.reg [o 5 (.mov (I 0))]),
    (sqs [
      (.reg [o 19 (.mov (T 0)), o 20 (.mov (T 1)), o 21 (.slice 6 (T 19) none (some (T 20))), o 22 (.len (T 21)), o 23 (.mov (I 0))]),
      (.block 0
        (.loop
          (sqs [
            (.reg [o 24 (.bin .lss (T 23) (T 22))]),
            (.cond (T 24)
              .skip
              (.exit 0)),
            (.block 1
              (sqs [
                (.reg [o 25 (.idxAddr 6 (T 21) (T 23)), o 26 (.load true 6 (T 25)), o 7 (.hole 6), o 7 (.birth 6 (T 7) (T 26))]),
                (sqs [
                  (.reg [o 27 (.fieldAddr 0 (T 7)), o 28 (.load false 1 (T 27)), o 29 (.call 134 [(T 28)])]),
                  (.cond (T 29)
                    (.reg [o 30 (.mov (T 5)), o 31 (.bin .add (T 30) (I 1)), o 5 (.mov (T 31))])
                    .skip)]),
                (.reg [o 32 (.fieldAddr 0 (T 7)), o 33 (.load false 1 (T 32)), o 34 (.bin .eql (T 33) (I 6))]),
                (.cond (T 34)
                  (.reg [o 35 (.mov (T 5)), o 36 (.bin .sub (T 35) (I 1)), o 5 (.mov (T 36))])
                  .skip)])),
            (.reg [o 37 (.bin .add (T 23) (I 1)), o 23 (.mov (T 37))])])))]),
    (.reg [o 38 (.mov (T 5)), o 4 (.mov (T 38))]),
    .ret])
theorem ok76 : cfn Tryz.prog Tryz.f76 2 = some (s76, [.tmp 4]) := by kernel_rfl

/-! 77 spec.BlockOk -/
def s77 : SCode :=
  (sqs [
    (.reg [o 2 (.mov (B false))]),
    (.reg [o 3 (.mov (I 0))]),
    (sqs [
      (.reg [o 4 (.mov (I 0))]),
      (.block 0
        (.loop
          (sqs [
            (sqs [
              (.reg [o 5 (.mov (T 4)), o 6 (.mov (T 0)), o 7 (.len (T 6)), o 8 (.bin .lss (T 5) (T 7))]),
              (.cond (T 8)
                .skip
                (.exit 0))]),
            (.block 1
              (sqs [
                (sqs [
                  (.reg [o 11 (.mov (T 0)), o 12 (.mov (T 4)), o 13 (.idxAddr 6 (T 11) (T 12)), o 14 (.load true 6 (T 13)), o 15 (.call 135 [(T 14)]), o 16 (.not (T 15))]),
                  (.cond (T 16)
                    (sqs [
                      (.reg [o 2 (.mov (B false))]),
                      .ret])
                    .skip)]),
                (sqs [
                  (.reg [o 17 (.mov (T 0)), o 18 (.mov (T 4)), o 19 (.idxAddr 6 (T 17) (T 18)), o 20 (.fieldAddr 0 (T 19)), o 21 (.load false 1 (T 20))]),
                  (.block 2
                    (sqs [
                      (sqs [
                        (.reg [o 23 (.bin .eql (T 21) (I 4)), o 22 (.mov (T 23))]),
                        (.cond (T 22)
                          .skip
                          (.reg [o 24 (.bin .eql (T 21) (I 5)), o 22 (.mov (T 24))]))]),
                      (.cond (T 22)
                        (.reg [o 25 (.mov (T 3)), o 26 (.bin .add (T 25) (I 1)), o 3 (.mov (T 26))])
                        (sqs [
                          (.reg [o 28 (.bin .eql (T 21) (I 6)), o 27 (.mov (T 28))]),
                          (.cond (T 27)
                            (.reg [o 29 (.mov (T 3)), o 30 (.bin .sub (T 29) (I 1)), o 3 (.mov (T 30))])
                            .skip)]))]))]),
                (.reg [o 31 (.mov (T 3)), o 32 (.call 99 [(T 31), (I 0), (I 3)]), o 33 (.not (T 32))]),
                (.cond (T 33)
                  (sqs [
                    (.reg [o 2 (.mov (B false))]),
                    .ret])
                  .skip)])),
            (.reg [o 9 (.mov (T 4)), o 10 (.bin .add (T 9) (I 1)), o 4 (.mov (T 10))])])))]),
    (.reg [o 34 (.mov (T 3)), o 35 (.bin .eql (T 34) (I 0)), o 36 (.mov (T 35)), og 37 (.mov (T 0)) 36 true, og 38 (.len (T 37)) 36 true, og 39 (.bin .leq (T 38) (I 24)) 36 true, o 40 (.pick (T 36) (T 39) (B false)), o 2 (.mov (T 40))]),
    .ret])
theorem ok77 : cfn Tryz.prog Tryz.f77 1 = some (s77, [.tmp 2]) := by kernel_rfl

/-! 78 spec.DepthOf -/
def s78 : SCode :=
  (sqs [
    (.reg [o 4 (.mov (I 0))]),
    (sqs [
      (.reg [o 7 (.mov (T 0)), o 8 (.call 77 [(T 7)]), o 9 (.not (T 8)), o 10 (.mov (T 9)), og 11 (.mov (T 1)) 10 false, og 12 (.mov (T 0)) 10 false, og 13 (.len (T 12)) 10 false, og 14 (.bin .sub (T 13) (I 1)) 10 false, og 15 (.call 99 [(T 11), (I 0), (T 14)]) 10 false, og 16 (.not (T 15)) 10 false, o 17 (.pick (T 10) (B true) (T 16))]),
      (.cond (T 17)
        (sqs [
          (.reg [o 4 (.mov (I (-1)))]),
          .ret])
        .skip)]),
    (.reg [o 5 (.mov (I 0))]),
    (sqs [
      (.reg [o 6 (.mov (I 0))]),
      (.block 0
        (.loop
          (sqs [
            (sqs [
              (.reg [o 18 (.mov (T 6)), o 19 (.mov (T 1)), o 20 (.bin .lss (T 18) (T 19))]),
              (.cond (T 20)
                .skip
                (.exit 0))]),
            (.block 1
              (sqs [
                (.reg [o 23 (.mov (T 0)), o 24 (.mov (T 6)), o 25 (.idxAddr 6 (T 23) (T 24)), o 26 (.load true 6 (T 25)), o 27 (.call 136 [(T 26)]), o 28 (.mov (T 27)), og 29 (.mov (T 0)) 28 true, og 30 (.mov (T 6)) 28 true, og 31 (.call 137 [(T 29), (T 30)]) 28 true, og 32 (.mov (T 1)) 28 true, og 33 (.bin .geq (T 31) (T 32)) 28 true, o 34 (.pick (T 28) (T 33) (B false))]),
                (.cond (T 34)
                  (.reg [o 35 (.mov (T 5)), o 36 (.bin .add (T 35) (I 1)), o 5 (.mov (T 36))])
                  .skip)])),
            (.reg [o 21 (.mov (T 6)), o 22 (.bin .add (T 21) (I 1)), o 6 (.mov (T 22))])])))]),
    (.reg [o 37 (.mov (T 5)), o 4 (.mov (T 37))]),
    .ret])
theorem ok78 : cfn Tryz.prog Tryz.f78 2 = some (s78, [.tmp 4]) := by kernel_rfl

/-! 79 impl.hasTask -/
def s79 : SCode :=
  (sqs [
    (.reg [o 2 (.box 1 (T 0)), o 4 (.mov (B false))]),
    (.reg [o 5 (.load true 1 (T 2)), o 6 (.call 67 [(T 5)]), o 7 (.mov (T 6)), og 8 (.mov (T 1)) 7 true, og 9 (.fieldAddr 0 (T 2)) 7 true, og 10 (.load false 1 (T 9)) 7 true, og 11 (.len (T 10)) 7 true, og 12 (.bin .sub (T 11) (I 1)) 7 true, og 13 (.call 114 [(T 8), (I 0), (T 12)]) 7 true, o 14 (.pick (T 7) (T 13) (B false)), o 4 (.mov (T 14))]),
    .ret])
theorem ok79 : cfn Tryz.prog Tryz.f79 2 = some (s79, [.tmp 4]) := by kernel_rfl

/-! 80 slices.Contains[[]int,int] -/
def s80 : SCode :=
  (sqs [
    (.reg [o 4 (.mov (B false))]),
    (.reg [o 5 (.mov (T 0)), o 6 (.mov (T 1)), o 7 (.call 138 [(T 5), (T 6)]), o 8 (.bin .geq (T 7) (I 0)), o 4 (.mov (T 8))]),
    .ret])
theorem ok80 : cfn Tryz.prog Tryz.f80 2 = some (s80, [.tmp 4]) := by kernel_rfl

/-! 81 impl.IsRigid -/
def s81 : SCode :=
  (sqs [
    (.reg [o 1 (.box 1 (T 0)), o 2 (.mov (B false))]),
    (.reg [o 4 (.make 1 8 [(.int .i64 0)] (I 8)), o 3 (.hole 1), o 3 (.birth 1 (T 3) (T 4))]),
    (.reg [o 5 (.load true 1 (T 1)), o 6 (.call 67 [(T 5)]), o 7 (.mov (T 6)), og 8 (.fieldAddr 0 (T 1)) 7 true, og 9 (.load false 1 (T 8)) 7 true, og 10 (.mkfn 139 [(T 3), (T 1)]) 7 true, og 11 (.call 69 [(T 9), (T 10)]) 7 true, og 12 (.not (T 11)) 7 true, o 13 (.pick (T 7) (T 12) (B false)), o 2 (.mov (T 13))]),
    .ret])
theorem ok81 : cfn Tryz.prog Tryz.f81 1 = some (s81, [.tmp 2]) := by kernel_rfl

/-! 82 impl.copyProgram -/
def s82 : SCode :=
  (sqs [
    (.reg [o 1 (.box 1 (T 0)), o 2 (.zero [.nils])]),
    (.reg [o 6 (.build [.nils] []), o 3 (.hole 1), o 3 (.birth 1 (T 3) (T 6))]),
    (sqs [
      (.reg [o 7 (.fieldAddr 0 (T 1)), o 8 (.load false 1 (T 7)), o 9 (.len (T 8)), o 10 (.mov (I 0))]),
      (.block 0
        (.loop
          (sqs [
            (.reg [o 11 (.bin .lss (T 10) (T 9))]),
            (.cond (T 11)
              .skip
              (.exit 0)),
            (.block 1
              (sqs [
                (.reg [o 12 (.idxAddr 4 (T 8) (T 10)), o 13 (.load true 4 (T 12)), o 5 (.hole 4), o 5 (.birth 4 (T 5) (T 13))]),
                (.regD [o 14 (.fieldAddr 0 (T 3)), ⟨some 15, (.load false 1 (T 14)), none, 1, []⟩, ⟨some 16, (.load true 4 (T 5)), none, 2, []⟩, ⟨some 17, (.call 142 [(T 16)]), none, 0, [1]⟩, ⟨some 18, (.lit 1 4 [.nils, (.int .i64 0), (.int .i64 0), (.int .i64 0)] [(0, (T 17))]), none, 0, [1]⟩, o 19 (.append 4 48 (T 15) (T 18)), o 20 (.fieldAddr 0 (T 3)), on_ (.store 1 (T 20) (T 19))])])),
            (.reg [o 21 (.bin .add (T 10) (I 1)), o 10 (.mov (T 21))])])))]),
    (.reg [o 22 (.load true 1 (T 3)), on_ (.store 1 (T 2) (T 22))]),
    .ret])
theorem ok82 : cfn Tryz.prog Tryz.f82 1 = some (s82, [.cell 2 true 1]) := by kernel_rfl

/-! 83 impl.split -/
def s83 : SCode :=
  (sqs [
    (.reg [o 3 (.box 1 (T 0)), o 6 (.zero [.nils])]),
    (.reg [o 10 (.load true 1 (T 3)), o 11 (.call 82 [(T 10)]), o 7 (.hole 1), o 7 (.birth 1 (T 7) (T 11))]),
    (.reg [o 12 (.fieldAddr 0 (T 7)), o 13 (.load false 1 (T 12)), o 14 (.mov (T 1)), o 15 (.idxAddr 4 (T 13) (T 14)), o 16 (.load true 4 (T 15)), o 8 (.hole 4), o 8 (.birth 4 (T 8) (T 16))]),
    (.regD [o 17 (.fieldAddr 0 (T 8)), ⟨some 18, (.load false 1 (T 17)), none, 1, []⟩, o 19 (.mov (T 2)), o 20 (.slice 6 (T 18) (some (T 19)) none), o 22 (.fieldAddr 1 (T 8)), ⟨some 23, (.load true 3 (T 22)), none, 6, []⟩, o 9 (.hole 4), ⟨some 21, (.call 143 [(T 20)]), none, 0, [6]⟩, o 24 (.build [.nils, (.int .i64 0), (.int .i64 0), (.int .i64 0)] [(0, 1, (T 21)), (1, 3, (T 23))]), o 9 (.birth 4 (T 9) (T 24))]),
    (.regD [o 25 (.fieldAddr 0 (T 7)), ⟨some 26, (.load false 1 (T 25)), none, 1, []⟩, o 27 (.mov (T 1)), o 28 (.fieldAddr 0 (T 8)), ⟨some 29, (.load false 1 (T 28)), none, 4, []⟩, o 30 (.mov (T 2)), o 31 (.slice 6 (T 29) none (some (T 30))), o 33 (.fieldAddr 0 (T 3)), ⟨some 34, (.load false 1 (T 33)), none, 9, []⟩, o 35 (.len (T 34)), o 36 (.build [(.int .i64 0), (.int .i64 0), (.int .i64 0)] [(0, 1, (I 1)), (1, 1, (T 35))]), ⟨some 32, (.call 143 [(T 31)]), none, 0, [1, 9]⟩, o 37 (.build [.nils, (.int .i64 0), (.int .i64 0), (.int .i64 0)] [(0, 1, (T 32)), (1, 3, (T 36))]), o 38 (.idxAddr 4 (T 26) (T 27)), on_ (.store 4 (T 38) (T 37))]),
    (.reg [o 39 (.fieldAddr 0 (T 7)), o 40 (.load false 1 (T 39)), o 41 (.load true 4 (T 9)), o 42 (.lit 1 4 [.nils, (.int .i64 0), (.int .i64 0), (.int .i64 0)] [(0, (T 41))]), o 43 (.append 4 48 (T 40) (T 42)), o 44 (.fieldAddr 0 (T 7)), on_ (.store 1 (T 44) (T 43))]),
    (.reg [o 45 (.load true 1 (T 7)), on_ (.store 1 (T 6) (T 45))]),
    .ret])
theorem ok83 : cfn Tryz.prog Tryz.f83 3 = some (s83, [.cell 6 true 1]) := by kernel_rfl

/-! 84 impl.VarsOk -/
def s84 : SCode :=
  (sqs [
    (.reg [o 2 (.mov (B false))]),
    (.reg [o 3 (.mov (T 0)), o 4 (.len (T 3)), o 5 (.bin .eql (T 4) (I 8)), o 6 (.mov (T 5)), og 7 (.mov (T 0)) 6 true, og 8 (.call 85 [(T 7)]) 6 true, o 9 (.pick (T 6) (T 8) (B false)), o 2 (.mov (T 9))]),
    .ret])
theorem ok84 : cfn Tryz.prog Tryz.f84 1 = some (s84, [.tmp 2]) := by kernel_rfl

/-! 85 impl.areValues -/
def s85 : SCode :=
  (sqs [
    (.reg [o 2 (.mov (B false))]),
    (.reg [o 3 (.mov (T 0)), o 4 (.call 112 [(T 3), (.val (.fn 144 []))]), o 5 (.not (T 4)), o 2 (.mov (T 5))]),
    .ret])
theorem ok85 : cfn Tryz.prog Tryz.f85 1 = some (s85, [.tmp 2]) := by kernel_rfl

/-! 89 impl.MemOk -/
def s89 : SCode :=
  (sqs [
    (.reg [o 2 (.box 1 (T 0)), o 4 (.mov (B false))]),
    (sqs [
      (.reg [o 9 (.load true 1 (T 2)), o 10 (.call 67 [(T 9)]), o 11 (.not (T 10)), o 12 (.mov (T 11)), og 13 (.mov (T 1)) 12 false, og 14 (.len (T 13)) 12 false, og 15 (.bin .neq (T 14) (I 49)) 12 false, o 16 (.pick (T 12) (B true) (T 15)), o 17 (.mov (T 16)), og 18 (.mov (T 1)) 17 false, og 19 (.slice 1 (T 18) none (some (I 8))) 17 false, og 20 (.call 85 [(T 19)]) 17 false, og 21 (.not (T 20)) 17 false, o 22 (.pick (T 17) (B true) (T 21))]),
      (.cond (T 22)
        (sqs [
          (.reg [o 4 (.mov (B false))]),
          .ret])
        .skip)]),
    (.reg [o 24 (.mov (T 1)), o 25 (.idxAddr 1 (T 24) (I 8)), o 26 (.load false 1 (T 25)), o 27 (.call 149 [(T 26)]), o 23 (.mov (T 27)), o 28 (.ext 0 (T 23)), o 29 (.ext 1 (T 23)), o 30 (.ext 2 (T 23)), o 5 (.mov (T 28)), o 6 (.mov (T 29)), o 7 (.mov (T 30))]),
    (sqs [
      (.reg [o 31 (.mov (T 5)), o 32 (.bin .lss (T 31) (I 0)), o 33 (.mov (T 32)), og 34 (.mov (T 5)) 33 false, og 35 (.fieldAddr 0 (T 2)) 33 false, og 36 (.load false 1 (T 35)) 33 false, og 37 (.len (T 36)) 33 false, og 38 (.bin .geq (T 34) (T 37)) 33 false, o 39 (.pick (T 33) (B true) (T 38)), o 40 (.mov (T 39)), og 41 (.mov (T 1)) 40 false, og 42 (.mov (T 7)) 40 false, og 43 (.bin .add (I 25) (T 42)) 40 false, og 44 (.slice 1 (T 41) (some (I 25)) (some (T 43))) 40 false, og 45 (.call 85 [(T 44)]) 40 false, og 46 (.not (T 45)) 40 false, o 47 (.pick (T 40) (B true) (T 46))]),
      (.cond (T 47)
        (sqs [
          (.reg [o 4 (.mov (B false))]),
          .ret])
        .skip)]),
    (sqs [
      (.reg [o 48 (.mov (T 6)), o 49 (.mov (I 0))]),
      (.block 0
        (.loop
          (sqs [
            (.reg [o 50 (.bin .lss (T 49) (T 48))]),
            (.cond (T 50)
              .skip
              (.exit 0)),
            (.block 1
              (sqs [
                (.reg [o 51 (.mov (T 49)), o 8 (.mov (T 51))]),
                (.reg [o 52 (.mov (T 1)), o 53 (.mov (T 8)), o 54 (.bin .mul (I 2) (T 53)), o 55 (.bin .add (I 9) (T 54)), o 56 (.idxAddr 1 (T 52) (T 55)), o 57 (.load false 1 (T 56)), o 58 (.call 150 [(T 57)]), o 59 (.not (T 58)), o 60 (.mov (T 59)), og 61 (.mov (T 1)) 60 false, og 62 (.mov (T 8)) 60 false, og 63 (.bin .mul (I 2) (T 62)) 60 false, og 64 (.bin .add (I 9) (T 63)) 60 false, og 65 (.bin .add (T 64) (I 1)) 60 false, og 66 (.idxAddr 1 (T 61) (T 65)) 60 false, og 67 (.load false 1 (T 66)) 60 false, og 68 (.call 145 [(T 67)]) 60 false, og 69 (.not (T 68)) 60 false, o 70 (.pick (T 60) (B true) (T 69))]),
                (.cond (T 70)
                  (sqs [
                    (.reg [o 4 (.mov (B false))]),
                    .ret])
                  .skip)])),
            (.reg [o 71 (.bin .add (T 49) (I 1)), o 49 (.mov (T 71))])])))]),
    (.reg [o 4 (.mov (B true))]),
    .ret])
theorem ok89 : cfn Tryz.prog Tryz.f89 2 = some (s89, [.tmp 4]) := by kernel_rfl

/-! 90 impl.IsClean -/
def s90 : SCode :=
  (sqs [
    (.reg [o 2 (.mov (B false))]),
    (sqs [
      (.reg [o 6 (.mov (T 0)), o 7 (.len (T 6)), o 8 (.bin .neq (T 7) (I 49))]),
      (.cond (T 8)
        (sqs [
          (.reg [o 2 (.mov (B false))]),
          .ret])
        .skip)]),
    (.reg [o 10 (.mov (T 0)), o 11 (.idxAddr 1 (T 10) (I 8)), o 12 (.load false 1 (T 11)), o 13 (.call 149 [(T 12)]), o 9 (.mov (T 13)), o 14 (.ext 0 (T 9)), o 15 (.ext 1 (T 9)), o 16 (.ext 2 (T 9)), o 3 (.mov (T 14)), o 4 (.mov (T 15)), o 5 (.mov (T 16))]),
    (.reg [o 17 (.mov (T 4)), o 18 (.bin .eql (T 17) (I 0)), o 2 (.mov (T 18))]),
    .ret])
theorem ok90 : cfn Tryz.prog Tryz.f90 1 = some (s90, [.tmp 2]) := by kernel_rfl

/-! 91 impl.isReading -/
def s91 : SCode :=
  (sqs [
    (.reg [o 4 (.mov (B false))]),
    (.reg [o 5 (.mov (T 1)), o 6 (.call 114 [(T 5), (I 0), (I 1000000)]), o 7 (.mov (T 6)), og 8 (.mov (T 0)) 7 true, og 9 (.call 85 [(T 8)]) 7 true, o 10 (.pick (T 7) (T 9) (B false)), o 4 (.mov (T 10))]),
    .ret])
theorem ok91 : cfn Tryz.prog Tryz.f91 2 = some (s91, [.tmp 4]) := by kernel_rfl

/-! 92 impl.traceOf -/
def s92 : SCode :=
  (sqs [
    (.reg [o 4 (.box 1 (T 0)), o 6 (.box 1 (T 2)), o 7 (.box 1 (T 3)), o 8 (.zero [.nils, .nils])]),
    (.reg [o 16 (.mov (T 1)), o 17 (.idxAddr 1 (T 16) (I 8)), o 18 (.load false 1 (T 17)), o 19 (.call 149 [(T 18)]), o 15 (.mov (T 19)), o 20 (.ext 0 (T 15)), o 21 (.ext 1 (T 15)), o 22 (.ext 2 (T 15)), o 9 (.mov (T 20)), o 10 (.mov (T 21)), o 11 (.mov (T 22))]),
    (.reg [o 23 (.mov (T 9)), o 24 (.mov (T 11)), o 25 (.mov (T 1)), o 26 (.call 151 [(T 25)]), o 27 (.build [.nils, .nils, (.int .i64 0), (.int .i64 0), (.int .i64 0), .nils, (.bool false), (.bool false), (.bool false), (.bool false), (.bool false), (.bool false), (.bool false), (.bool false), .nils] [(2, 1, (T 23)), (3, 1, (T 24)), (14, 1, (T 26))]), o 28 (.box 15 (T 27)), o 12 (.hole 1), o 12 (.birth 1 (T 12) (T 28))]),
    (.reg [o 29 (.fieldAddr 0 (T 4)), o 30 (.load false 1 (T 29)), o 31 (.mov (T 9)), o 32 (.idxAddr 4 (T 30) (T 31)), o 33 (.load true 4 (T 32)), o 13 (.hole 4), o 13 (.birth 4 (T 13) (T 33))]),
    (.reg [o 34 (.load true 4 (T 13)), o 35 (.call 95 [(T 34)]), o 14 (.hole 1), o 14 (.birth 1 (T 14) (T 35))]),
    (.reg [o 36 (.fieldAddr 0 (T 13)), o 37 (.load false 1 (T 36)), o 38 (.mkfn 152 [(T 12), (T 14), (T 6), (T 7)]), o 39 (.call 146 [(T 37), (T 38)])]),
    (.reg [o 40 (.load false 1 (T 12)), o 41 (.call 153 [(T 40), (I 1)])]),
    (.regD [o 42 (.load false 1 (T 12)), ⟨some 43, (.load true 1 (T 4)), none, 1, []⟩, ⟨some 44, (.load false 1 (T 12)), none, 2, []⟩, o 45 (.nilchk (T 44)), o 46 (.fieldAddr 14 (T 45)), ⟨some 47, (.load false 1 (T 46)), none, 5, []⟩, o 48 (.mov (T 9)), o 50 (.mov (T 11)), ⟨some 51, (.load false 1 (T 12)), none, 9, []⟩, o 52 (.nilchk (T 51)), o 53 (.fieldAddr 4 (T 52)), ⟨some 54, (.load false 1 (T 53)), none, 12, []⟩, o 55 (.bin .add (T 50) (T 54)), o 56 (.min (I 24) (T 55)), ⟨some 49, (.call 148 [(T 43), (T 47), (T 48)]), none, 0, [0, 9, 12]⟩, ⟨some 57, (.call 159 [(T 49), (I 0), (T 56)]), none, 0, [0]⟩, o 58 (.call 158 [(T 42), (I 8), (T 57)])]),
    (.reg [o 59 (.load false 1 (T 12)), o 60 (.nilchk (T 59)), o 61 (.fieldAddr 0 (T 60)), o 62 (.load true 2 (T 61)), on_ (.store 2 (T 8) (T 62))]),
    .ret])
theorem ok92 : cfn Tryz.prog Tryz.f92 4 = some (s92, [.cell 8 true 2]) := by kernel_rfl

/-! 93 impl.taskOk -/
def s93 : SCode :=
  (sqs [
    (.reg [o 1 (.box 4 (T 0)), o 2 (.mov (B false))]),
    (.reg [o 3 (.fieldAddr 0 (T 1)), o 4 (.load false 1 (T 3)), o 5 (.call 75 [(T 4)]), o 6 (.mov (T 5)), og 7 (.fieldAddr 1 (T 1)) 6 true, og 8 (.load true 3 (T 7)) 6 true, og 9 (.call 160 [(T 8)]) 6 true, o 10 (.pick (T 6) (T 9) (B false)), o 2 (.mov (T 10))]),
    .ret])
theorem ok93 : cfn Tryz.prog Tryz.f93 1 = some (s93, [.tmp 2]) := by kernel_rfl

/-! 94 impl.bound -/
def s94 : SCode :=
  (sqs [
    (.reg [o 2 (.mov (I 0))]),
    (.reg [o 3 (.mov (I 0))]),
    (sqs [
      (.reg [o 4 (.mov (I 0))]),
      (.block 0
        (.loop
          (sqs [
            (sqs [
              (.reg [o 8 (.mov (T 4)), o 9 (.mov (T 0)), o 10 (.len (T 9)), o 11 (.bin .lss (T 8) (T 10))]),
              (.cond (T 11)
                .skip
                (.exit 0))]),
            (.block 1
              (sqs [
                (.reg [o 14 (.mov (T 0)), o 15 (.mov (T 4)), o 16 (.idxAddr 6 (T 14) (T 15)), o 17 (.load true 6 (T 16)), o 5 (.hole 6), o 5 (.birth 6 (T 5) (T 17))]),
                (.reg [o 18 (.mov (T 3)), o 19 (.load true 6 (T 5)), o 20 (.call 154 [(T 19)]), o 21 (.bin .add (T 18) (T 20)), o 3 (.mov (T 21))]),
                (sqs [
                  (.reg [o 22 (.fieldAddr 0 (T 5)), o 23 (.load false 1 (T 22)), o 24 (.call 134 [(T 23)]), o 25 (.not (T 24))]),
                  (.cond (T 25)
                    (sqs [
                      (.reg [o 26 (.mov (T 3)), o 27 (.bin .add (T 26) (I 3)), o 3 (.mov (T 27))]),
                      (.exit 1)])
                    .skip)]),
                (.reg [o 28 (.mov (T 0)), o 29 (.mov (T 4)), o 30 (.call 161 [(T 28), (T 29)]), o 6 (.mov (T 30))]),
                (.reg [o 7 (.mov (I 1))]),
                (sqs [
                  (.reg [o 31 (.fieldAddr 0 (T 5)), o 32 (.load false 1 (T 31)), o 33 (.bin .eql (T 32) (I 5))]),
                  (.cond (T 33)
                    (.reg [o 34 (.fieldAddr 2 (T 5)), o 35 (.load false 1 (T 34)), o 7 (.mov (T 35))])
                    .skip)]),
                (.reg [o 36 (.mov (T 3)), o 37 (.mov (T 7)), o 38 (.mov (T 0)), o 39 (.mov (T 4)), o 40 (.bin .add (T 39) (I 1)), o 41 (.mov (T 6)), o 42 (.slice 6 (T 38) (some (T 40)) (some (T 41))), o 43 (.call 94 [(T 42)]), o 44 (.bin .mul (T 37) (T 43)), o 45 (.bin .add (T 36) (T 44)), o 3 (.mov (T 45))]),
                (.reg [o 46 (.mov (T 6)), o 4 (.mov (T 46))])])),
            (.reg [o 12 (.mov (T 4)), o 13 (.bin .add (T 12) (I 1)), o 4 (.mov (T 13))])])))]),
    (.reg [o 47 (.mov (T 3)), o 2 (.mov (T 47))]),
    .ret])
theorem ok94 : cfn Tryz.prog Tryz.f94 1 = some (s94, [.tmp 2]) := by kernel_rfl

/-! 95 impl.MustLog -/
def s95 : SCode :=
  (sqs [
    (.reg [o 1 (.box 4 (T 0)), o 2 (.mov N)]),
    (sqs [
      (.reg [o 5 (.load true 4 (T 1)), o 6 (.call 93 [(T 5)]), o 7 (.not (T 6))]),
      (.cond (T 7)
        (sqs [
          (.reg [o 2 (.mov N)]),
          .ret])
        .skip)]),
    (.regD [o 8 (.load true 4 (T 1)), o 10 (.fieldAddr 0 (T 1)), ⟨some 11, (.load false 1 (T 10)), none, 3, []⟩, o 3 (.hole 1), o 4 (.hole 1), ⟨some 9, (.call 162 [(T 8)]), none, 0, [3]⟩, o 12 (.call 163 [(T 11)]), o 3 (.birth 1 (T 3) (T 9)), o 4 (.birth 1 (T 4) (T 12))]),
    (.reg [o 13 (.fieldAddr 0 (T 1)), o 14 (.load false 1 (T 13)), o 15 (.call 165 [(T 14)]), o 16 (.mkfn 166 [(T 3), (T 4)]), o 17 (.call 164 [(T 15), (T 16)]), o 2 (.mov (T 17))]),
    .ret])
theorem ok95 : cfn Tryz.prog Tryz.f95 1 = some (s95, [.tmp 2]) := by kernel_rfl

/-! 96 impl.RecoveryCost -/
def s96 : SCode :=
  (sqs [
    (.reg [o 2 (.mov (I 0))]),
    (.block 0
      (sqs [
        (.reg [o 4 (.mov (T 0)), o 5 (.call 114 [(T 4), (I 0), (I 8)]), o 6 (.not (T 5)), o 3 (.mov (T 6))]),
        (.cond (T 3)
          (sqs [
            (.reg [o 2 (.mov (I (-1)))]),
            .ret])
          (sqs [
            (.reg [o 8 (.mov (T 0)), o 9 (.bin .eql (T 8) (I 0)), o 7 (.mov (T 9))]),
            (.cond (T 7)
              (sqs [
                (.reg [o 2 (.mov (I 0))]),
                .ret])
              .skip)]))])),
    (.reg [o 10 (.mov (T 0)), o 11 (.bin .add (T 10) (I 1)), o 12 (.bin .mul (I 3) (T 11)), o 2 (.mov (T 12))]),
    .ret])
theorem ok96 : cfn Tryz.prog Tryz.f96 1 = some (s96, [.tmp 2]) := by kernel_rfl

/-! 97 laws.szTaskS -/
def s97 : SCode :=
  (sqs [
    (.reg [o 4 (.mov (I 0))]),
    (.reg [o 6 (.mov (T 1)), o 7 (.mov (T 0)), o 8 (.len (T 7)), o 9 (.bin .sub (T 6) (T 8)), o 1 (.mov (T 9))]),
    (sqs [
      (.reg [o 10 (.mov (T 1)), o 11 (.bin .lss (T 10) (I 0))]),
      (.cond (T 11)
        (sqs [
          (.reg [o 4 (.mov (I (-1)))]),
          .ret])
        .skip)]),
    (sqs [
      (.reg [o 5 (.mov (I 0))]),
      (.block 0
        (.loop
          (sqs [
            (sqs [
              (.reg [o 12 (.mov (T 5)), o 13 (.mov (T 0)), o 14 (.len (T 13)), o 15 (.bin .lss (T 12) (T 14))]),
              (.cond (T 15)
                .skip
                (.exit 0))]),
            (.block 1
              (sqs [
                (.reg [o 18 (.mov (T 0)), o 19 (.mov (T 5)), o 20 (.idxAddr 4 (T 18) (T 19)), o 21 (.load true 4 (T 20)), o 22 (.mov (T 1)), o 23 (.call 168 [(T 21), (T 22)]), o 1 (.mov (T 23))]),
                (.reg [o 24 (.mov (T 1)), o 25 (.bin .lss (T 24) (I 0))]),
                (.cond (T 25)
                  (sqs [
                    (.reg [o 4 (.mov (I (-1)))]),
                    .ret])
                  .skip)])),
            (.reg [o 16 (.mov (T 5)), o 17 (.bin .add (T 16) (I 1)), o 5 (.mov (T 17))])])))]),
    (.reg [o 26 (.mov (T 1)), o 4 (.mov (T 26))]),
    .ret])
theorem ok97 : cfn Tryz.prog Tryz.f97 2 = some (s97, [.tmp 4]) := by kernel_rfl

/-! 98 spec.IsRigid -/
def s98 : SCode :=
  (sqs [
    (.reg [o 1 (.box 1 (T 0)), o 2 (.mov (B false))]),
    (sqs [
      (.reg [o 5 (.load true 1 (T 1)), o 6 (.call 107 [(T 5)]), o 7 (.not (T 6))]),
      (.cond (T 7)
        (sqs [
          (.reg [o 2 (.mov (B false))]),
          .ret])
        .skip)]),
    (.reg [o 8 (.make 1 8 [(.int .i64 0)] (I 8)), o 3 (.mov (T 8))]),
    (sqs [
      (.reg [o 4 (.mov (I 0))]),
      (.block 0
        (.loop
          (sqs [
            (sqs [
              (.reg [o 9 (.mov (T 4)), o 10 (.fieldAddr 0 (T 1)), o 11 (.load false 1 (T 10)), o 12 (.len (T 11)), o 13 (.bin .lss (T 9) (T 12))]),
              (.cond (T 13)
                .skip
                (.exit 0))]),
            (.block 1
              (sqs [
                (.regD [o 16 (.fieldAddr 0 (T 1)), ⟨some 17, (.load false 1 (T 16)), none, 1, []⟩, o 18 (.mov (T 4)), o 19 (.idxAddr 4 (T 17) (T 18)), o 20 (.fieldAddr 1 (T 19)), o 21 (.fieldAddr 1 (T 20)), ⟨some 22, (.load false 1 (T 21)), none, 6, []⟩, o 23 (.bin .lss (T 22) (I 0)), o 24 (.mov (T 23)), og 25 (.fieldAddr 0 (T 1)) 24 false, ⟨some 26, (.load false 1 (T 25)), some (24, false), 10, []⟩, og 27 (.mov (T 4)) 24 false, og 28 (.idxAddr 4 (T 26) (T 27)) 24 false, og 29 (.fieldAddr 1 (T 28)) 24 false, og 30 (.fieldAddr 2 (T 29)) 24 false, ⟨some 31, (.load false 1 (T 30)), some (24, false), 15, []⟩, og 32 (.bin .lss (T 31) (I 0)) 24 false, o 33 (.pick (T 24) (B true) (T 32)), o 34 (.mov (T 33)), og 35 (.mov (T 3)) 34 false, og 36 (.fieldAddr 0 (T 1)) 34 false, ⟨some 37, (.load false 1 (T 36)), some (34, false), 21, []⟩, og 38 (.mov (T 4)) 34 false, og 39 (.idxAddr 4 (T 37) (T 38)) 34 false, og 40 (.fieldAddr 1 (T 39)) 34 false, ⟨some 41, (.load true 3 (T 40)), some (34, false), 25, []⟩, og 43 (.fieldAddr 0 (T 1)) 34 false, ⟨some 44, (.load false 1 (T 43)), some (34, false), 28, []⟩, og 45 (.len (T 44)) 34 false, og 46 (.bin .sub (T 45) (I 1)) 34 false, ⟨some 42, (.call 169 [(T 35), (T 41)]), some (34, false), 0, [28]⟩, og 47 (.call 99 [(T 42), (I 0), (T 46)]) 34 false, og 48 (.not (T 47)) 34 false, o 49 (.pick (T 34) (B true) (T 48))]),
                (.cond (T 49)
                  (sqs [
                    (.reg [o 2 (.mov (B false))]),
                    .ret])
                  .skip)])),
            (.reg [o 14 (.mov (T 4)), o 15 (.bin .add (T 14) (I 1)), o 4 (.mov (T 15))])])))]),
    (.reg [o 2 (.mov (B true))]),
    .ret])
theorem ok98 : cfn Tryz.prog Tryz.f98 1 = some (s98, [.tmp 2]) := by kernel_rfl

/-! 99 spec.l01In -/
def s99 : SCode :=
  (sqs [
    (.reg [o 6 (.mov (B false))]),
    (.reg [o 7 (.mov (T 0)), o 8 (.mov (T 1)), o 9 (.bin .geq (T 7) (T 8)), o 10 (.mov (T 9)), og 11 (.mov (T 0)) 10 true, og 12 (.mov (T 2)) 10 true, og 13 (.bin .leq (T 11) (T 12)) 10 true, o 14 (.pick (T 10) (T 13) (B false)), o 6 (.mov (T 14))]),
    .ret])
theorem ok99 : cfn Tryz.prog Tryz.f99 3 = some (s99, [.tmp 6]) := by kernel_rfl

/-! 100 spec.HasVar -/
def s100 : SCode :=
  (sqs [
    (.reg [o 4 (.mov (B false))]),
    (sqs [
      (.reg [o 5 (.mov (I 0))]),
      (.block 0
        (.loop
          (sqs [
            (sqs [
              (.reg [o 6 (.mov (T 5)), o 7 (.mov (T 0)), o 8 (.len (T 7)), o 9 (.bin .lss (T 6) (T 8))]),
              (.cond (T 9)
                .skip
                (.exit 0))]),
            (.block 1
              (sqs [
                (.reg [o 12 (.mov (T 0)), o 13 (.mov (T 5)), o 14 (.idxAddr 1 (T 12) (T 13)), o 15 (.load false 1 (T 14)), o 16 (.mov (T 1)), o 17 (.bin .eql (T 15) (T 16))]),
                (.cond (T 17)
                  (sqs [
                    (.reg [o 4 (.mov (B true))]),
                    .ret])
                  .skip)])),
            (.reg [o 10 (.mov (T 5)), o 11 (.bin .add (T 10) (I 1)), o 5 (.mov (T 11))])])))]),
    (.reg [o 4 (.mov (B false))]),
    .ret])
theorem ok100 : cfn Tryz.prog Tryz.f100 2 = some (s100, [.tmp 4]) := by kernel_rfl

/-! 101 spec.l06Copy -/
def s101 : SCode :=
  (sqs [
    (.reg [o 1 (.box 1 (T 0)), o 2 (.zero [.nils])]),
    (.reg [o 5 (.build [.nils] []), o 3 (.hole 1), o 3 (.birth 1 (T 3) (T 5))]),
    (sqs [
      (.reg [o 4 (.mov (I 0))]),
      (.block 0
        (.loop
          (sqs [
            (sqs [
              (.reg [o 6 (.mov (T 4)), o 7 (.fieldAddr 0 (T 1)), o 8 (.load false 1 (T 7)), o 9 (.len (T 8)), o 10 (.bin .lss (T 6) (T 9))]),
              (.cond (T 10)
                .skip
                (.exit 0))]),
            (.block 1
              (.regD [o 13 (.fieldAddr 0 (T 3)), ⟨some 14, (.load false 1 (T 13)), none, 1, []⟩, o 16 (.fieldAddr 0 (T 1)), ⟨some 17, (.load false 1 (T 16)), none, 4, []⟩, o 18 (.mov (T 4)), o 19 (.idxAddr 4 (T 17) (T 18)), o 20 (.fieldAddr 0 (T 19)), ⟨some 21, (.load false 1 (T 20)), none, 8, []⟩, o 23 (.fieldAddr 0 (T 1)), ⟨some 24, (.load false 1 (T 23)), none, 11, []⟩, o 25 (.mov (T 4)), o 26 (.idxAddr 4 (T 24) (T 25)), o 27 (.fieldAddr 1 (T 26)), ⟨some 28, (.load true 3 (T 27)), none, 15, []⟩, ⟨some 15, (.lit 0 6 [(.int .i64 0), (.int .i64 0), (.int .i64 0), (.int .i64 0), (.int .i64 0), (.int .i64 0)] []), none, 0, [1, 4, 8, 11, 15]⟩, ⟨some 22, (.append 6 48 (T 15) (T 21)), none, 0, [1, 11, 15]⟩, o 29 (.build [.nils, (.int .i64 0), (.int .i64 0), (.int .i64 0)] [(0, 1, (T 22)), (1, 3, (T 28))]), ⟨some 30, (.lit 1 4 [.nils, (.int .i64 0), (.int .i64 0), (.int .i64 0)] [(0, (T 29))]), none, 0, [1]⟩, o 31 (.append 4 48 (T 14) (T 30)), o 32 (.fieldAddr 0 (T 3)), on_ (.store 1 (T 32) (T 31))])),
            (.reg [o 11 (.mov (T 4)), o 12 (.bin .add (T 11) (I 1)), o 4 (.mov (T 12))])])))]),
    (.reg [o 33 (.load true 1 (T 3)), on_ (.store 1 (T 2) (T 33))]),
    .ret])
theorem ok101 : cfn Tryz.prog Tryz.f101 1 = some (s101, [.cell 2 true 1]) := by kernel_rfl

/-! 102 spec.l22Split -/
def s102 : SCode :=
  (sqs [
    (.reg [o 3 (.box 1 (T 0)), o 6 (.zero [.nils])]),
    (.reg [o 11 (.load true 1 (T 3)), o 12 (.call 101 [(T 11)]), o 7 (.hole 1), o 7 (.birth 1 (T 7) (T 12))]),
    (.reg [o 13 (.fieldAddr 0 (T 7)), o 14 (.load false 1 (T 13)), o 15 (.mov (T 1)), o 16 (.idxAddr 4 (T 14) (T 15)), o 17 (.load true 4 (T 16)), o 8 (.hole 4), o 8 (.birth 4 (T 8) (T 17))]),
    (.reg [o 18 (.fieldAddr 0 (T 7)), o 19 (.load false 1 (T 18)), o 20 (.len (T 19)), o 9 (.mov (T 20))]),
    (.regD [o 22 (.fieldAddr 0 (T 8)), ⟨some 23, (.load false 1 (T 22)), none, 2, []⟩, o 24 (.mov (T 2)), o 25 (.slice 6 (T 23) (some (T 24)) none), o 27 (.fieldAddr 1 (T 8)), ⟨some 28, (.load true 3 (T 27)), none, 7, []⟩, o 10 (.hole 4), ⟨some 21, (.lit 0 6 [(.int .i64 0), (.int .i64 0), (.int .i64 0), (.int .i64 0), (.int .i64 0), (.int .i64 0)] []), none, 0, [2, 7]⟩, ⟨some 26, (.append 6 48 (T 21) (T 25)), none, 0, [7]⟩, o 29 (.build [.nils, (.int .i64 0), (.int .i64 0), (.int .i64 0)] [(0, 1, (T 26)), (1, 3, (T 28))]), o 10 (.birth 4 (T 10) (T 29))]),
    (.regD [o 30 (.fieldAddr 0 (T 7)), ⟨some 31, (.load false 1 (T 30)), none, 1, []⟩, o 32 (.mov (T 1)), o 34 (.fieldAddr 0 (T 8)), ⟨some 35, (.load false 1 (T 34)), none, 5, []⟩, o 36 (.mov (T 2)), o 37 (.slice 6 (T 35) none (some (T 36))), o 39 (.mov (T 9)), o 40 (.build [(.int .i64 0), (.int .i64 0), (.int .i64 0)] [(0, 1, (I 1)), (1, 1, (T 39))]), ⟨some 33, (.lit 0 6 [(.int .i64 0), (.int .i64 0), (.int .i64 0), (.int .i64 0), (.int .i64 0), (.int .i64 0)] []), none, 0, [1, 5]⟩, ⟨some 38, (.append 6 48 (T 33) (T 37)), none, 0, [1]⟩, o 41 (.build [.nils, (.int .i64 0), (.int .i64 0), (.int .i64 0)] [(0, 1, (T 38)), (1, 3, (T 40))]), o 42 (.idxAddr 4 (T 31) (T 32)), on_ (.store 4 (T 42) (T 41))]),
    (.reg [o 43 (.fieldAddr 0 (T 7)), o 44 (.load false 1 (T 43)), o 45 (.load true 4 (T 10)), o 46 (.lit 1 4 [.nils, (.int .i64 0), (.int .i64 0), (.int .i64 0)] [(0, (T 45))]), o 47 (.append 4 48 (T 44) (T 46)), o 48 (.fieldAddr 0 (T 7)), on_ (.store 1 (T 48) (T 47))]),
    (.reg [o 49 (.load true 1 (T 7)), on_ (.store 1 (T 6) (T 49))]),
    .ret])
theorem ok102 : cfn Tryz.prog Tryz.f102 3 = some (s102, [.cell 6 true 1]) := by kernel_rfl

/-! 103 laws.toTaskS -/
def s103 : SCode :=
  (sqs [
    (.reg [o 2 (.mov N)]),
    (.reg [o 5 (.mov (T 0)), o 6 (.len (T 5)), o 7 (.make 4 48 [.nils, (.int .i64 0), (.int .i64 0), (.int .i64 0)] (T 6)), o 3 (.mov (T 7))]),
    (sqs [
      (.reg [o 4 (.mov (I 0))]),
      (.block 0
        (.loop
          (sqs [
            (sqs [
              (.reg [o 8 (.mov (T 4)), o 9 (.mov (T 0)), o 10 (.len (T 9)), o 11 (.bin .lss (T 8) (T 10))]),
              (.cond (T 11)
                .skip
                (.exit 0))]),
            (.block 1
              (.reg [o 14 (.mov (T 3)), o 15 (.mov (T 4)), o 16 (.mov (T 0)), o 17 (.mov (T 4)), o 18 (.idxAddr 4 (T 16) (T 17)), o 19 (.load true 4 (T 18)), o 20 (.call 170 [(T 19)]), o 21 (.idxAddr 4 (T 14) (T 15)), on_ (.store 4 (T 21) (T 20))])),
            (.reg [o 12 (.mov (T 4)), o 13 (.bin .add (T 12) (I 1)), o 4 (.mov (T 13))])])))]),
    (.reg [o 22 (.mov (T 3)), o 2 (.mov (T 22))]),
    .ret])
theorem ok103 : cfn Tryz.prog Tryz.f103 1 = some (s103, [.tmp 2]) := by kernel_rfl

/-! 104 laws.eqTaskS -/
def s104 : SCode :=
  (sqs [
    (.reg [o 4 (.mov (B false))]),
    (sqs [
      (.reg [o 6 (.mov (T 0)), o 7 (.len (T 6)), o 8 (.mov (T 1)), o 9 (.len (T 8)), o 10 (.bin .neq (T 7) (T 9))]),
      (.cond (T 10)
        (sqs [
          (.reg [o 4 (.mov (B false))]),
          .ret])
        .skip)]),
    (sqs [
      (.reg [o 5 (.mov (I 0))]),
      (.block 0
        (.loop
          (sqs [
            (sqs [
              (.reg [o 11 (.mov (T 5)), o 12 (.mov (T 0)), o 13 (.len (T 12)), o 14 (.bin .lss (T 11) (T 13))]),
              (.cond (T 14)
                .skip
                (.exit 0))]),
            (.block 1
              (sqs [
                (.regD [o 17 (.mov (T 0)), o 18 (.mov (T 5)), o 19 (.idxAddr 4 (T 17) (T 18)), ⟨some 20, (.load true 4 (T 19)), none, 3, []⟩, o 21 (.mov (T 1)), o 22 (.mov (T 5)), o 23 (.idxAddr 4 (T 21) (T 22)), ⟨some 24, (.load true 4 (T 23)), none, 7, []⟩, o 25 (.call 171 [(T 20), (T 24)]), o 26 (.not (T 25))]),
                (.cond (T 26)
                  (sqs [
                    (.reg [o 4 (.mov (B false))]),
                    .ret])
                  .skip)])),
            (.reg [o 15 (.mov (T 5)), o 16 (.bin .add (T 15) (I 1)), o 5 (.mov (T 16))])])))]),
    (.reg [o 4 (.mov (B true))]),
    .ret])
theorem ok104 : cfn Tryz.prog Tryz.f104 2 = some (s104, [.tmp 4]) := by kernel_rfl

/-! 107 spec.ProgramOk -/
def s107 : SCode :=
  (sqs [
    (.reg [o 1 (.box 1 (T 0)), o 2 (.mov (B false))]),
    (sqs [
      (.reg [o 3 (.mov (I 0))]),
      (.block 0
        (.loop
          (sqs [
            (sqs [
              (.reg [o 4 (.mov (T 3)), o 5 (.fieldAddr 0 (T 1)), o 6 (.load false 1 (T 5)), o 7 (.len (T 6)), o 8 (.bin .lss (T 4) (T 7))]),
              (.cond (T 8)
                .skip
                (.exit 0))]),
            (.block 1
              (sqs [
                (.reg [o 11 (.fieldAddr 0 (T 1)), o 12 (.load false 1 (T 11)), o 13 (.mov (T 3)), o 14 (.idxAddr 4 (T 12) (T 13)), o 15 (.fieldAddr 0 (T 14)), o 16 (.load false 1 (T 15)), o 17 (.call 77 [(T 16)]), o 18 (.not (T 17)), o 19 (.mov (T 18)), og 20 (.fieldAddr 0 (T 1)) 19 false, og 21 (.load false 1 (T 20)) 19 false, og 22 (.mov (T 3)) 19 false, og 23 (.idxAddr 4 (T 21) (T 22)) 19 false, og 24 (.fieldAddr 1 (T 23)) 19 false, og 25 (.load true 3 (T 24)) 19 false, og 26 (.call 174 [(T 25)]) 19 false, og 27 (.not (T 26)) 19 false, o 28 (.pick (T 19) (B true) (T 27))]),
                (.cond (T 28)
                  (sqs [
                    (.reg [o 2 (.mov (B false))]),
                    .ret])
                  .skip)])),
            (.reg [o 9 (.mov (T 3)), o 10 (.bin .add (T 9) (I 1)), o 3 (.mov (T 10))])])))]),
    (.reg [o 29 (.fieldAddr 0 (T 1)), o 30 (.load false 1 (T 29)), o 31 (.len (T 30)), o 32 (.call 99 [(T 31), (I 1), (I 6)]), o 2 (.mov (T 32))]),
    .ret])
theorem ok107 : cfn Tryz.prog Tryz.f107 1 = some (s107, [.tmp 2]) := by kernel_rfl

/-! 108 spec.StoreOk -/
def s108 : SCode :=
  (sqs [
    (.reg [o 1 (.box 4 (T 0)), o 2 (.mov (B false))]),
    (.reg [o 3 (.fieldAddr 1 (T 1)), o 4 (.load false 1 (T 3)), o 5 (.call 99 [(T 4), (I 1), (I 5000)]), o 6 (.mov (T 5)), og 7 (.fieldAddr 0 (T 1)) 6 true, og 8 (.load false 1 (T 7)) 6 true, og 9 (.fieldAddr 1 (T 1)) 6 true, og 10 (.load false 1 (T 9)) 6 true, og 11 (.call 99 [(T 8), (I 0), (T 10)]) 6 true, o 12 (.pick (T 6) (T 11) (B false)), o 13 (.mov (T 12)), og 14 (.fieldAddr 2 (T 1)) 13 true, og 15 (.load false 1 (T 14)) 13 true, og 16 (.fieldAddr 1 (T 1)) 13 true, og 17 (.load false 1 (T 16)) 13 true, og 18 (.call 99 [(T 15), (I 1), (T 17)]) 13 true, o 19 (.pick (T 13) (T 18) (B false)), o 20 (.mov (T 19)), og 21 (.fieldAddr 3 (T 1)) 20 true, og 22 (.load false 1 (T 21)) 20 true, og 23 (.call 99 [(T 22), (I 0), (I 100)]) 20 true, o 24 (.pick (T 20) (T 23) (B false)), o 2 (.mov (T 24))]),
    .ret])
theorem ok108 : cfn Tryz.prog Tryz.f108 1 = some (s108, [.tmp 2]) := by kernel_rfl

/-! 109 spec.BootBound -/
def s109 : SCode :=
  (sqs [
    (.reg [o 1 (.box 4 (T 0)), o 2 (.mov (I 0))]),
    (sqs [
      (.reg [o 3 (.load true 4 (T 1)), o 4 (.call 175 [(T 3)]), o 5 (.not (T 4))]),
      (.cond (T 5)
        (sqs [
          (.reg [o 2 (.mov (I (-1)))]),
          .ret])
        .skip)]),
    (.regD [o 6 (.load true 4 (T 1)), ⟨some 8, (.load true 4 (T 1)), none, 2, []⟩, ⟨some 7, (.call 176 [(T 6)]), none, 0, [2]⟩, o 9 (.call 178 [(T 8)]), o 10 (.len (T 9)), o 11 (.call 177 [(T 10)]), o 12 (.bin .add (T 7) (T 11)), o 2 (.mov (T 12))]),
    .ret])
theorem ok109 : cfn Tryz.prog Tryz.f109 1 = some (s109, [.tmp 2]) := by kernel_rfl

/-! 110 spec.l17Energies -/
def s110 : SCode :=
  (sqs [
    (.reg [o 2 (.mov N)]),
    (.reg [o 5 (.lit 0 1 [(.int .i64 0)] []), o 3 (.mov (T 5))]),
    (sqs [
      (.reg [o 4 (.mov (I 0))]),
      (.block 0
        (.loop
          (sqs [
            (sqs [
              (.reg [o 6 (.mov (T 4)), o 7 (.mov (T 0)), o 8 (.call 74 [(T 7), (I 9)]), o 9 (.bin .lss (T 6) (T 8))]),
              (.cond (T 9)
                .skip
                (.exit 0))]),
            (.block 1
              (.reg [o 12 (.mov (T 3)), o 13 (.mov (T 0)), o 14 (.mov (T 0)), o 15 (.lit 3 1 [(.int .i64 0)] [(0, (I 12)), (1, (I 60)), (2, (I 250))]), o 16 (.call 129 [(T 14), (T 15)]), o 17 (.call 74 [(T 13), (T 16)]), o 18 (.lit 1 1 [(.int .i64 0)] [(0, (T 17))]), o 19 (.append 1 8 (T 12) (T 18)), o 3 (.mov (T 19))])),
            (.reg [o 10 (.mov (T 4)), o 11 (.bin .add (T 10) (I 1)), o 4 (.mov (T 11))])])))]),
    (.reg [o 20 (.mov (T 3)), o 2 (.mov (T 20))]),
    .ret])
theorem ok110 : cfn Tryz.prog Tryz.f110 1 = some (s110, [.tmp 2]) := by kernel_rfl

/-! 111 impl.isBootAt -/
def s111 : SCode :=
  (sqs [
    (.reg [o 4 (.box 1 (T 0)), o 8 (.mov (B false))]),
    (.reg [o 9 (.load true 1 (T 4)), o 10 (.mov (T 1)), o 11 (.call 89 [(T 9), (T 10)]), o 12 (.mov (T 11)), og 13 (.mov (T 2)) 12 true, og 14 (.call 85 [(T 13)]) 12 true, o 15 (.pick (T 12) (T 14) (B false)), o 16 (.mov (T 15)), og 17 (.mov (T 3)) 16 true, og 18 (.call 114 [(T 17), (I 0), (I 500000)]) 16 true, o 19 (.pick (T 16) (T 18) (B false)), o 8 (.mov (T 19))]),
    .ret])
theorem ok111 : cfn Tryz.prog Tryz.f111 4 = some (s111, [.tmp 8]) := by kernel_rfl

/-! 112 slices.ContainsFunc[[]int,int] -/
def s112 : SCode :=
  (sqs [
    (.reg [o 4 (.mov (B false))]),
    (.reg [o 5 (.mov (T 0)), o 6 (.mov (T 1)), o 7 (.call 179 [(T 5), (T 6)]), o 8 (.bin .geq (T 7) (I 0)), o 4 (.mov (T 8))]),
    .ret])
theorem ok112 : cfn Tryz.prog Tryz.f112 2 = some (s112, [.tmp 4]) := by kernel_rfl

/-! 113 impl.RunBoots$1 -/
def s113 : SCode :=
  (sqs [
    (.reg [o 2 (.mov (B false))]),
    (.reg [o 3 (.mov (T 0)), o 4 (.call 114 [(T 3), (I 0), (I 5000)]), o 5 (.not (T 4)), o 2 (.mov (T 5))]),
    .ret])
theorem ok113 : cfn Tryz.prog Tryz.f113 1 = some (s113, [.tmp 2]) := by kernel_rfl

/-! 114 impl.within -/
def s114 : SCode :=
  (sqs [
    (.reg [o 6 (.mov (B false))]),
    (.reg [o 7 (.mov (T 0)), o 8 (.mov (T 1)), o 9 (.bin .geq (T 7) (T 8)), o 10 (.mov (T 9)), og 11 (.mov (T 0)) 10 true, og 12 (.mov (T 2)) 10 true, og 13 (.bin .leq (T 11) (T 12)) 10 true, o 14 (.pick (T 10) (T 13) (B false)), o 6 (.mov (T 14))]),
    .ret])
theorem ok114 : cfn Tryz.prog Tryz.f114 3 = some (s114, [.tmp 6]) := by kernel_rfl

/-! 115 slices.Clone[[]int,int] -/
def s115 : SCode :=
  (sqs [
    (.reg [o 2 (.mov N)]),
    (sqs [
      (.reg [o 3 (.mov (T 0)), o 4 (.isnil 27 false (T 3))]),
      (.cond (T 4)
        (sqs [
          (.reg [o 2 (.mov N)]),
          .ret])
        .skip)]),
    (.reg [o 5 (.lit 0 1 [(.int .i64 0)] []), o 6 (.mov (T 0)), o 7 (.append 1 8 (T 5) (T 6)), o 2 (.mov (T 7))]),
    .ret])
theorem ok115 : cfn Tryz.prog Tryz.f115 1 = some (s115, [.tmp 2]) := by kernel_rfl

/-! 116 impl.boot -/
def s116 : SCode :=
  (sqs [
    (.reg [o 5 (.box 1 (T 0)), o 10 (.zero [.nils, (.int .i64 0), .nils, (.int .i64 0)])]),
    (.reg [o 12 (.mov (T 1)), o 13 (.call 115 [(T 12)]), o 14 (.mov (T 3)), o 15 (.mov (T 4)), o 16 (.build [.nils, (.int .i64 0), .nils, (.int .i64 0)] [(0, 1, (T 13)), (1, 1, (T 14)), (3, 1, (T 15))]), o 11 (.hole 4), o 11 (.birth 4 (T 11) (T 16))]),
    (sqs [
      (.reg [o 17 (.call 180 [(T 11)]), o 18 (.not (T 17))]),
      (.cond (T 18)
        (sqs [
          (.reg [o 19 (.load true 4 (T 11)), on_ (.store 4 (T 10) (T 19))]),
          .ret])
        .skip)]),
    (.block 0
      (.loop
        (sqs [
          (sqs [
            (.reg [o 20 (.fieldAddr 2 (T 11)), o 21 (.load false 1 (T 20)), o 22 (.len (T 21)), o 23 (.bin .lss (T 22) (I 10)), o 24 (.mov (T 23)), og 25 (.load true 1 (T 5)) 24 true, og 26 (.mov (T 2)) 24 true, og 27 (.call 181 [(T 11), (T 25), (T 26)]) 24 true, o 28 (.pick (T 24) (T 27) (B false))]),
            (.cond (T 28)
              .skip
              (.exit 0))]),
          (.block 1
            .skip)]))),
    (.reg [o 29 (.load true 4 (T 11)), on_ (.store 4 (T 10) (T 29))]),
    .ret])
theorem ok116 : cfn Tryz.prog Tryz.f116 5 = some (s116, [.cell 10 true 4]) := by kernel_rfl

/-! 118 slices.IndexFunc[[]impl.Task,impl.Task] -/
def s118 : SCode :=
  (sqs [
    (.reg [o 4 (.mov (I 0))]),
    (sqs [
      (.reg [o 6 (.mov (T 0)), o 7 (.len (T 6)), o 8 (.mov (I 0))]),
      (.block 0
        (.loop
          (sqs [
            (.reg [o 9 (.bin .lss (T 8) (T 7))]),
            (.cond (T 9)
              .skip
              (.exit 0)),
            (.block 1
              (sqs [
                (.reg [o 10 (.mov (T 8)), o 5 (.mov (T 10))]),
                (.reg [o 11 (.mov (T 1)), o 12 (.mov (T 0)), o 13 (.mov (T 5)), o 14 (.idxAddr 4 (T 12) (T 13)), o 15 (.load true 4 (T 14)), o 16 (.callv (T 11) [(T 15)])]),
                (.cond (T 16)
                  (sqs [
                    (.reg [o 17 (.mov (T 5)), o 4 (.mov (T 17))]),
                    .ret])
                  .skip)])),
            (.reg [o 18 (.bin .add (T 8) (I 1)), o 8 (.mov (T 18))])])))]),
    (.reg [o 4 (.mov (I (-1)))]),
    .ret])
theorem ok118 : cfn Tryz.prog Tryz.f118 2 = some (s118, [.tmp 4]) := by kernel_rfl

/-! 126 spec.l05Case -/
def s126 : SCode :=
  (sqs [
    (.reg [o 2 (.mov N)]),
    (.reg [o 3 (.mov (T 0)), o 4 (.mov (T 0)), o 5 (.call 74 [(T 4), (I 6)]), o 6 (.call 185 [(T 3), (T 5), (I 0)]), o 2 (.mov (T 6))]),
    .ret])
theorem ok126 : cfn Tryz.prog Tryz.f126 1 = some (s126, [.tmp 2]) := by kernel_rfl

/-! 127 spec.l03Expr -/
def s127 : SCode :=
  (sqs [
    (.reg [o 2 (.zero [(.int .i64 0), (.int .i64 0), (.int .i64 0)])]),
    (.reg [o 3 (.mov (T 0)), o 4 (.call 74 [(T 3), (I 7)]), o 5 (.bin .add (I 1) (T 4)), o 6 (.mov (T 0)), o 7 (.call 186 [(T 6)]), o 8 (.mov (T 0)), o 9 (.call 186 [(T 8)]), o 10 (.build [(.int .i64 0), (.int .i64 0), (.int .i64 0)] [(0, 1, (T 5)), (1, 1, (T 7)), (2, 1, (T 9))]), on_ (.store 3 (T 2) (T 10))]),
    .ret])
theorem ok127 : cfn Tryz.prog Tryz.f127 1 = some (s127, [.cell 2 true 3]) := by kernel_rfl

/-! 128 spec.MemNew -/
def s128 : SCode :=
  (sqs [
    (.reg [o 2 (.mov N), o 3 (.mov (B false))]),
    (sqs [
      (.reg [o 5 (.mov (T 0)), o 6 (.call 187 [(T 5)]), o 7 (.not (T 6))]),
      (.cond (T 7)
        (sqs [
          (.reg [o 8 (.lit 0 1 [(.int .i64 0)] []), o 2 (.mov (T 8)), o 3 (.mov (B false))]),
          .ret])
        .skip)]),
    (.reg [o 9 (.lit 0 1 [(.int .i64 0)] []), o 10 (.mov (T 0)), o 11 (.append 1 8 (T 9) (T 10)), o 4 (.mov (T 11))]),
    (.reg [o 12 (.mov (T 4)), o 13 (.append 1 8 (T 12) (.val (.lst 1 (List.replicate 41 [(.int .i64 0)])))), o 2 (.mov (T 13)), o 3 (.mov (B true))]),
    .ret])
theorem ok128 : cfn Tryz.prog Tryz.f128 1 = some (s128, [.tmp 2, .tmp 3]) := by kernel_rfl

/-! 129 spec.l01PickInt -/
def s129 : SCode :=
  (sqs [
    (.reg [o 4 (.mov (I 0))]),
    (.reg [o 5 (.mov (T 1)), o 6 (.mov (T 0)), o 7 (.mov (T 1)), o 8 (.len (T 7)), o 9 (.call 74 [(T 6), (T 8)]), o 10 (.idxAddr 1 (T 5) (T 9)), o 11 (.load false 1 (T 10)), o 4 (.mov (T 11))]),
    .ret])
theorem ok129 : cfn Tryz.prog Tryz.f129 2 = some (s129, [.tmp 4]) := by kernel_rfl

/-! 130 impl.harvested -/
def s130 : SCode :=
  (sqs [
    (.reg [o 2 (.box 4 (T 0)), o 4 (.mov N), o 5 (.mov (I 0)), o 6 (.mov (B false))]),
    (sqs [
      (.reg [o 11 (.load true 4 (T 2)), o 12 (.call 68 [(T 11)]), o 13 (.not (T 12)), o 14 (.mov (T 13)), og 15 (.mov (T 1)) 14 false, og 16 (.len (T 15)) 14 false, og 17 (.bin .gtr (T 16) (I 500)) 14 false, o 18 (.pick (T 14) (B true) (T 17)), o 19 (.mov (T 18)), og 20 (.mov (T 1)) 19 false, og 21 (.call 188 [(T 20)]) 19 false, og 22 (.not (T 21)) 19 false, o 23 (.pick (T 19) (B true) (T 22))]),
      (.cond (T 23)
        (sqs [
          (.reg [o 4 (.mov N), o 5 (.mov (I 0)), o 6 (.mov (B false))]),
          .ret])
        .skip)]),
    (.reg [o 24 (.lit 0 1 [(.int .i64 0)] []), o 7 (.mov (T 24))]),
    (.reg [o 8 (.mov (I 0))]),
    (sqs [
      (.reg [o 25 (.mov (T 1)), o 26 (.len (T 25)), o 27 (.mov (I 0))]),
      (.block 0
        (.loop
          (sqs [
            (.reg [o 28 (.bin .lss (T 27) (T 26))]),
            (.cond (T 28)
              .skip
              (.exit 0)),
            (.block 1
              (sqs [
                (.reg [o 29 (.idxAddr 1 (T 25) (T 27)), o 30 (.load false 1 (T 29)), o 10 (.mov (T 30))]),
                (.reg [o 31 (.mov (T 8)), o 32 (.fieldAddr 0 (T 2)), o 33 (.load false 1 (T 32)), o 34 (.mov (T 10)), o 35 (.bin .add (T 33) (T 34)), o 36 (.fieldAddr 3 (T 2)), o 37 (.load false 1 (T 36)), o 38 (.bin .sub (T 35) (T 37)), o 39 (.fieldAddr 1 (T 2)), o 40 (.load false 1 (T 39)), o 41 (.bin .sub (T 38) (T 40)), o 42 (.max (I 0) (T 41)), o 43 (.bin .add (T 31) (T 42)), o 8 (.mov (T 43))]),
                (.reg [o 44 (.mov (T 10)), o 45 (.call 189 [(T 2), (T 44)])]),
                (.reg [o 46 (.fieldAddr 0 (T 2)), o 47 (.load false 1 (T 46)), o 48 (.fieldAddr 2 (T 2)), o 49 (.load false 1 (T 48)), o 50 (.bin .geq (T 47) (T 49))]),
                (.cond (T 50)
                  (sqs [
                    (.reg [o 51 (.mov (T 7)), o 52 (.fieldAddr 0 (T 2)), o 53 (.load false 1 (T 52)), o 54 (.lit 1 1 [(.int .i64 0)] [(0, (T 53))]), o 55 (.append 1 8 (T 51) (T 54)), o 7 (.mov (T 55))]),
                    (.reg [o 56 (.fieldAddr 0 (T 2)), on_ (.store 1 (T 56) (I 0))])])
                  .skip)])),
            (.reg [o 57 (.bin .add (T 27) (I 1)), o 27 (.mov (T 57))])])))]),
    (.reg [o 58 (.mov (T 7)), o 59 (.mov (T 8)), o 4 (.mov (T 58)), o 5 (.mov (T 59)), o 6 (.mov (B true))]),
    .ret])
theorem ok130 : cfn Tryz.prog Tryz.f130 2 = some (s130, [.tmp 4, .tmp 5, .tmp 6]) := by kernel_rfl

/-! 131 impl.ProgramOk$1 -/
def s131 : SCode :=
  (sqs [
    (.reg [o 1 (.box 4 (T 0)), o 2 (.mov (B false))]),
    (.reg [o 3 (.load true 4 (T 1)), o 4 (.call 93 [(T 3)]), o 5 (.not (T 4)), o 2 (.mov (T 5))]),
    .ret])
theorem ok131 : cfn Tryz.prog Tryz.f131 1 = some (s131, [.tmp 2]) := by kernel_rfl

/-! 132 spec.l01Byte -/
def s132 : SCode :=
  (sqs [
    (.reg [o 2 (.mov (I 0))]),
    (.reg [o 4 (.mov (T 0)), o 5 (.mov (T 0)), o 6 (.nilchk (T 5)), o 7 (.fieldAddr 2 (T 6)), o 8 (.load false 1 (T 7)), o 9 (.bin .mul (T 8) (I 6364136223846793005)), o 10 (.bin .add (T 9) (I 1442695040888963407)), o 11 (.nilchk (T 4)), o 12 (.fieldAddr 2 (T 11)), on_ (.store 1 (T 12) (T 10))]),
    (.regD [o 13 (.mov (T 0)), o 14 (.nilchk (T 13)), o 15 (.fieldAddr 2 (T 14)), ⟨some 16, (.load false 1 (T 15)), none, 3, []⟩, o 17 (.bin .shr (T 16) (.val (.int .u64 33))), o 18 (.mov (T 0)), o 19 (.nilchk (T 18)), o 20 (.fieldAddr 2 (T 19)), ⟨some 21, (.load false 1 (T 20)), none, 8, []⟩, o 22 (.bin .shr (T 21) (.val (.int .u64 45))), o 23 (.bin .xor (T 17) (T 22)), o 24 (.bin .and (T 23) (I 255)), o 3 (.mov (T 24))]),
    (sqs [
      (.regD [o 25 (.mov (T 0)), o 26 (.nilchk (T 25)), o 27 (.fieldAddr 1 (T 26)), ⟨some 28, (.load false 1 (T 27)), none, 3, []⟩, o 29 (.mov (T 0)), o 30 (.nilchk (T 29)), o 31 (.fieldAddr 0 (T 30)), ⟨some 32, (.load false 1 (T 31)), none, 7, []⟩, o 33 (.len (T 32)), o 34 (.bin .lss (T 28) (T 33))]),
      (.cond (T 34)
        (sqs [
          (.regD [o 35 (.mov (T 3)), o 36 (.mov (T 0)), o 37 (.nilchk (T 36)), o 38 (.fieldAddr 0 (T 37)), ⟨some 39, (.load false 1 (T 38)), none, 4, []⟩, o 40 (.mov (T 0)), o 41 (.nilchk (T 40)), o 42 (.fieldAddr 1 (T 41)), ⟨some 43, (.load false 1 (T 42)), none, 8, []⟩, o 44 (.idxAddr 1 (T 39) (T 43)), ⟨some 45, (.load false 1 (T 44)), none, 10, []⟩, o 46 (.conv .i64 (T 45)), o 47 (.bin .add (T 35) (T 46)), o 48 (.bin .and (T 47) (I 255)), o 3 (.mov (T 48))]),
          (.reg [o 49 (.mov (T 0)), o 50 (.mov (T 0)), o 51 (.nilchk (T 50)), o 52 (.fieldAddr 1 (T 51)), o 53 (.load false 1 (T 52)), o 54 (.bin .add (T 53) (I 1)), o 55 (.nilchk (T 49)), o 56 (.fieldAddr 1 (T 55)), on_ (.store 1 (T 56) (T 54))])])
        .skip)]),
    (.reg [o 57 (.mov (T 3)), o 2 (.mov (T 57))]),
    .ret])
theorem ok132 : cfn Tryz.prog Tryz.f132 1 = some (s132, [.tmp 2]) := by kernel_rfl

/-! 133 impl.StmtOk -/
def s133 : SCode :=
  (sqs [
    (.reg [o 1 (.box 6 (T 0)), o 2 (.mov (B false))]),
    (sqs [
      (.reg [o 3 (.fieldAddr 0 (T 1)), o 4 (.load false 1 (T 3)), o 5 (.call 114 [(T 4), (I 1), (I 6)]), o 6 (.not (T 5)), o 7 (.mov (T 6)), og 8 (.fieldAddr 0 (T 1)) 7 false, og 9 (.load false 1 (T 8)) 7 false, og 10 (.call 190 [(T 9)]) 7 false, og 11 (.mov (T 10)) 7 false, og 12 (.fieldAddr 1 (T 1)) 11 true, og 13 (.load false 1 (T 12)) 11 true, og 14 (.call 150 [(T 13)]) 11 true, og 15 (.not (T 14)) 11 true, og 16 (.pick (T 11) (T 15) (B false)) 7 false, o 17 (.pick (T 7) (B true) (T 16)), o 18 (.mov (T 17)), og 19 (.fieldAddr 0 (T 1)) 18 false, og 20 (.load false 1 (T 19)) 18 false, og 21 (.call 190 [(T 20)]) 18 false, og 22 (.not (T 21)) 18 false, og 23 (.mov (T 22)) 18 false, og 24 (.fieldAddr 1 (T 1)) 23 true, og 25 (.load false 1 (T 24)) 23 true, og 26 (.bin .neq (T 25) (I 0)) 23 true, og 27 (.pick (T 23) (T 26) (B false)) 18 false, o 28 (.pick (T 18) (B true) (T 27))]),
      (.cond (T 28)
        (sqs [
          (.reg [o 2 (.mov (B false))]),
          .ret])
        .skip)]),
    (sqs [
      (.reg [o 29 (.fieldAddr 0 (T 1)), o 30 (.load false 1 (T 29)), o 31 (.call 191 [(T 30)]), o 32 (.mov (T 31)), og 33 (.fieldAddr 3 (T 1)) 32 true, og 34 (.load true 3 (T 33)) 32 true, og 35 (.call 160 [(T 34)]) 32 true, og 36 (.not (T 35)) 32 true, o 37 (.pick (T 32) (T 36) (B false)), o 38 (.mov (T 37)), og 39 (.fieldAddr 0 (T 1)) 38 false, og 40 (.load false 1 (T 39)) 38 false, og 41 (.call 191 [(T 40)]) 38 false, og 42 (.not (T 41)) 38 false, og 43 (.mov (T 42)) 38 false, og 44 (.fieldAddr 3 (T 1)) 43 true, og 45 (.load true 3 (T 44)) 43 true, og 46 (.build [(.int .i64 0), (.int .i64 0), (.int .i64 0)] []) 43 true, og 47 (.eqs 46 true (T 45) (T 46)) 43 true, og 48 (.pick (T 43) (T 47) (B false)) 38 false, o 49 (.pick (T 38) (B true) (T 48))]),
      (.cond (T 49)
        (sqs [
          (.reg [o 2 (.mov (B false))]),
          .ret])
        .skip)]),
    (sqs [
      (.reg [o 50 (.fieldAddr 0 (T 1)), o 51 (.load false 1 (T 50))]),
      (.block 0
        (sqs [
          (.reg [o 53 (.bin .eql (T 51) (I 2)), o 52 (.mov (T 53))]),
          (.cond (T 52)
            (sqs [
              (.reg [o 54 (.fieldAddr 2 (T 1)), o 55 (.load false 1 (T 54)), o 56 (.call 192 [(T 55)]), o 2 (.mov (T 56))]),
              .ret])
            (sqs [
              (.reg [o 58 (.bin .eql (T 51) (I 5)), o 57 (.mov (T 58))]),
              (.cond (T 57)
                (sqs [
                  (.reg [o 59 (.fieldAddr 2 (T 1)), o 60 (.load false 1 (T 59)), o 61 (.call 114 [(T 60), (I 1), (I 5)]), o 2 (.mov (T 61))]),
                  .ret])
                .skip)]))]))]),
    (.reg [o 62 (.fieldAddr 2 (T 1)), o 63 (.load false 1 (T 62)), o 64 (.bin .eql (T 63) (I 0)), o 2 (.mov (T 64))]),
    .ret])
theorem ok133 : cfn Tryz.prog Tryz.f133 1 = some (s133, [.tmp 2]) := by kernel_rfl

/-! 134 impl.isOpening -/
def s134 : SCode :=
  (sqs [
    (.reg [o 2 (.mov (B false))]),
    (.reg [o 3 (.mov (T 0)), o 4 (.bin .eql (T 3) (I 4)), o 5 (.mov (T 4)), og 6 (.mov (T 0)) 5 false, og 7 (.bin .eql (T 6) (I 5)) 5 false, o 8 (.pick (T 5) (B true) (T 7)), o 2 (.mov (T 8))]),
    .ret])
theorem ok134 : cfn Tryz.prog Tryz.f134 1 = some (s134, [.tmp 2]) := by kernel_rfl

/-! 135 spec.StmtOk -/
def s135 : SCode :=
  (sqs [
    (.reg [o 1 (.box 6 (T 0)), o 2 (.mov (B false))]),
    (sqs [
      (.regD [o 3 (.load true 6 (T 1)), ⟨some 4, (.load true 6 (T 1)), none, 1, []⟩, ⟨some 5, (.call 193 [(T 4)]), none, 0, [0]⟩, o 6 (.eqs 109 true (T 3) (T 5))]),
      (.cond (T 6)
        (sqs [
          (.reg [o 2 (.mov (B false))]),
          .ret])
        .skip)]),
    (sqs [
      (.reg [o 7 (.fieldAddr 0 (T 1)), o 8 (.load false 1 (T 7))]),
      (.block 0
        (sqs [
          (.reg [o 10 (.bin .eql (T 8) (I 1)), o 9 (.mov (T 10))]),
          (.cond (T 9)
            (sqs [
              (.reg [o 11 (.fieldAddr 1 (T 1)), o 12 (.load false 1 (T 11)), o 13 (.call 99 [(T 12), (I 0), (I 7)]), o 14 (.mov (T 13)), og 15 (.fieldAddr 3 (T 1)) 14 true, og 16 (.load true 3 (T 15)) 14 true, og 17 (.call 174 [(T 16)]) 14 true, o 18 (.pick (T 14) (T 17) (B false)), o 2 (.mov (T 18))]),
              .ret])
            (sqs [
              (.reg [o 20 (.bin .eql (T 8) (I 2)), o 19 (.mov (T 20))]),
              (.cond (T 19)
                (sqs [
                  (.reg [o 21 (.fieldAddr 1 (T 1)), o 22 (.load false 1 (T 21)), o 23 (.call 99 [(T 22), (I 0), (I 7)]), o 24 (.mov (T 23)), og 25 (.fieldAddr 2 (T 1)) 24 true, og 26 (.load false 1 (T 25)) 24 true, og 27 (.call 99 [(T 26), (I 0), (I 3)]) 24 true, o 28 (.pick (T 24) (T 27) (B false)), o 2 (.mov (T 28))]),
                  .ret])
                (sqs [
                  (sqs [
                    (.reg [o 30 (.bin .eql (T 8) (I 3)), o 29 (.mov (T 30))]),
                    (.cond (T 29)
                      .skip
                      (.reg [o 31 (.bin .eql (T 8) (I 4)), o 29 (.mov (T 31))]))]),
                  (.cond (T 29)
                    (sqs [
                      (.reg [o 32 (.fieldAddr 3 (T 1)), o 33 (.load true 3 (T 32)), o 34 (.call 174 [(T 33)]), o 2 (.mov (T 34))]),
                      .ret])
                    (sqs [
                      (.reg [o 36 (.bin .eql (T 8) (I 5)), o 35 (.mov (T 36))]),
                      (.cond (T 35)
                        (sqs [
                          (.reg [o 37 (.fieldAddr 2 (T 1)), o 38 (.load false 1 (T 37)), o 39 (.call 99 [(T 38), (I 1), (I 5)]), o 2 (.mov (T 39))]),
                          .ret])
                        .skip)]))]))]))]))]),
    (.reg [o 40 (.fieldAddr 0 (T 1)), o 41 (.load false 1 (T 40)), o 42 (.bin .eql (T 41) (I 6)), o 2 (.mov (T 42))]),
    .ret])
theorem ok135 : cfn Tryz.prog Tryz.f135 1 = some (s135, [.tmp 2]) := by kernel_rfl

/-! 136 spec.l05Opens -/
def s136 : SCode :=
  (sqs [
    (.reg [o 1 (.box 6 (T 0)), o 2 (.mov (B false))]),
    (.reg [o 3 (.fieldAddr 0 (T 1)), o 4 (.load false 1 (T 3)), o 5 (.bin .eql (T 4) (I 4)), o 6 (.mov (T 5)), og 7 (.fieldAddr 0 (T 1)) 6 false, og 8 (.load false 1 (T 7)) 6 false, og 9 (.bin .eql (T 8) (I 5)) 6 false, o 10 (.pick (T 6) (B true) (T 9)), o 2 (.mov (T 10))]),
    .ret])
theorem ok136 : cfn Tryz.prog Tryz.f136 1 = some (s136, [.tmp 2]) := by kernel_rfl

/-! 137 spec.l05End -/
def s137 : SCode :=
  (sqs [
    (.reg [o 4 (.mov (I 0))]),
    (.reg [o 5 (.mov (I 0))]),
    (sqs [
      (.reg [o 7 (.mov (T 1)), o 6 (.mov (T 7))]),
      (.block 0
        (.loop
          (sqs [
            (sqs [
              (.reg [o 8 (.mov (T 6)), o 9 (.mov (T 0)), o 10 (.len (T 9)), o 11 (.bin .lss (T 8) (T 10))]),
              (.cond (T 11)
                .skip
                (.exit 0))]),
            (.block 1
              (sqs [
                (sqs [
                  (.reg [o 14 (.mov (T 0)), o 15 (.mov (T 6)), o 16 (.idxAddr 6 (T 14) (T 15)), o 17 (.load true 6 (T 16)), o 18 (.call 136 [(T 17)])]),
                  (.cond (T 18)
                    (.reg [o 19 (.mov (T 5)), o 20 (.bin .add (T 19) (I 1)), o 5 (.mov (T 20))])
                    .skip)]),
                (.reg [o 21 (.mov (T 0)), o 22 (.mov (T 6)), o 23 (.idxAddr 6 (T 21) (T 22)), o 24 (.fieldAddr 0 (T 23)), o 25 (.load false 1 (T 24)), o 26 (.bin .eql (T 25) (I 6))]),
                (.cond (T 26)
                  (sqs [
                    (.reg [o 27 (.mov (T 5)), o 28 (.bin .sub (T 27) (I 1)), o 5 (.mov (T 28))]),
                    (.reg [o 29 (.mov (T 5)), o 30 (.bin .eql (T 29) (I 0))]),
                    (.cond (T 30)
                      (sqs [
                        (.reg [o 31 (.mov (T 6)), o 4 (.mov (T 31))]),
                        .ret])
                      .skip)])
                  .skip)])),
            (.reg [o 12 (.mov (T 6)), o 13 (.bin .add (T 12) (I 1)), o 6 (.mov (T 13))])])))]),
    (.reg [o 4 (.mov (I (-1)))]),
    .ret])
theorem ok137 : cfn Tryz.prog Tryz.f137 2 = some (s137, [.tmp 4]) := by kernel_rfl

/-! 138 slices.Index[[]int,int] -/
def s138 : SCode :=
  (sqs [
    (.reg [o 4 (.mov (I 0))]),
    (sqs [
      (.reg [o 6 (.mov (T 0)), o 7 (.len (T 6)), o 8 (.mov (I 0))]),
      (.block 0
        (.loop
          (sqs [
            (.reg [o 9 (.bin .lss (T 8) (T 7))]),
            (.cond (T 9)
              .skip
              (.exit 0)),
            (.block 1
              (sqs [
                (.reg [o 10 (.mov (T 8)), o 5 (.mov (T 10))]),
                (.reg [o 11 (.mov (T 1)), o 12 (.mov (T 0)), o 13 (.mov (T 5)), o 14 (.idxAddr 1 (T 12) (T 13)), o 15 (.load false 1 (T 14)), o 16 (.bin .eql (T 11) (T 15))]),
                (.cond (T 16)
                  (sqs [
                    (.reg [o 17 (.mov (T 5)), o 4 (.mov (T 17))]),
                    .ret])
                  .skip)])),
            (.reg [o 18 (.bin .add (T 8) (I 1)), o 8 (.mov (T 18))])])))]),
    (.reg [o 4 (.mov (I (-1)))]),
    .ret])
theorem ok138 : cfn Tryz.prog Tryz.f138 2 = some (s138, [.tmp 4]) := by kernel_rfl

/-! 139 impl.IsRigid$1 -/
def s139 : SCode :=
  (sqs [
    (.reg [o 3 (.box 4 (T 0)), o 4 (.mov (B false))]),
    (.regD [o 5 (.fieldAddr 1 (T 3)), ⟨some 6, (.load true 3 (T 5)), none, 1, []⟩, o 7 (.call 140 [(T 6)]), o 8 (.len (T 7)), o 9 (.bin .gtr (T 8) (I 0)), o 10 (.mov (T 9)), ⟨some 11, (.load false 1 (T 1)), some (10, false), 6, []⟩, og 12 (.fieldAddr 1 (T 3)) 10 false, ⟨some 13, (.load true 3 (T 12)), some (10, false), 8, []⟩, og 15 (.fieldAddr 0 (T 2)) 10 false, ⟨some 16, (.load false 1 (T 15)), some (10, false), 11, []⟩, og 17 (.len (T 16)) 10 false, og 18 (.bin .sub (T 17) (I 1)) 10 false, ⟨some 14, (.call 141 [(T 11), (T 13)]), some (10, false), 0, [11]⟩, og 19 (.call 114 [(T 14), (I 0), (T 18)]) 10 false, og 20 (.not (T 19)) 10 false, o 21 (.pick (T 10) (B true) (T 20)), o 4 (.mov (T 21))]),
    .ret])
theorem ok139 : cfn Tryz.prog Tryz.f139 3 = some (s139, [.tmp 4]) := by kernel_rfl

/-! 140 impl.ReadsOf -/
def s140 : SCode :=
  (sqs [
    (.reg [o 1 (.box 3 (T 0)), o 2 (.mov N)]),
    (sqs [
      (.reg [o 6 (.load true 3 (T 1)), o 7 (.call 160 [(T 6)]), o 8 (.not (T 7))]),
      (.cond (T 8)
        (sqs [
          (.reg [o 2 (.mov N)]),
          .ret])
        .skip)]),
    (.reg [o 9 (.lit 0 1 [(.int .i64 0)] []), o 3 (.mov (T 9))]),
    (sqs [
      (.reg [o 10 (.fieldAddr 1 (T 1)), o 11 (.load false 1 (T 10)), o 12 (.fieldAddr 2 (T 1)), o 13 (.load false 1 (T 12)), o 14 (.lit 2 1 [(.int .i64 0)] [(0, (T 11)), (1, (T 13))]), o 15 (.len (T 14)), o 16 (.mov (I 0))]),
      (.block 0
        (.loop
          (sqs [
            (.reg [o 17 (.bin .lss (T 16) (T 15))]),
            (.cond (T 17)
              .skip
              (.exit 0)),
            (.block 1
              (sqs [
                (.reg [o 18 (.idxAddr 1 (T 14) (T 16)), o 19 (.load false 1 (T 18)), o 5 (.mov (T 19))]),
                (.reg [o 20 (.mov (T 5)), o 21 (.bin .lss (T 20) (I 0))]),
                (.cond (T 21)
                  (.reg [o 22 (.mov (T 3)), o 23 (.mov (T 5)), o 24 (.bin .sub (I (-1)) (T 23)), o 25 (.lit 1 1 [(.int .i64 0)] [(0, (T 24))]), o 26 (.append 1 8 (T 22) (T 25)), o 3 (.mov (T 26))])
                  .skip)])),
            (.reg [o 27 (.bin .add (T 16) (I 1)), o 16 (.mov (T 27))])])))]),
    (.reg [o 28 (.mov (T 3)), o 29 (.call 194 [(T 28)])]),
    (.reg [o 30 (.mov (T 3)), o 31 (.call 195 [(T 30)]), o 2 (.mov (T 31))]),
    .ret])
theorem ok140 : cfn Tryz.prog Tryz.f140 1 = some (s140, [.tmp 2]) := by kernel_rfl

end Go.Av

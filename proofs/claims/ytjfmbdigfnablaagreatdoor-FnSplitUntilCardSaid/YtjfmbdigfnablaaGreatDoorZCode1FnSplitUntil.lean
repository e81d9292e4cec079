import Derived.Test.YtjfmbdigfnablaaGreatDoorAv23
import Derived.Test.YtjfmbdigfnablaaGreatDoorProg
namespace Go.Av
open Go.Proofs
set_option maxRecDepth 1000000
/-- A string by its bytes. -/
def bz (l : List UInt8) : ByteArray := ⟨l.toArray⟩
/-! 3 laws.FnSplitUntil -/
def s3 : SCode :=
  (sqs [
    (.reg [o 2 (.mov (B false))]),
    (sqs [
      (.reg [o 11 (.mov (T 0)), o 12 (.call 4 [(T 11)])]),
      (.cond (T 12)
        (sqs [
          (.reg [o 2 (.mov (B true))]),
          .ret])
        .skip)]),
    (.reg [o 13 (.mov (T 0)), o 14 (.call 5 [(T 13)]), o 3 (.hole 1), o 3 (.birth 1 (T 3) (T 14))]),
    (.reg [o 15 (.mov (T 0)), o 16 (.call 6 [(T 15)]), o 4 (.mov (T 16))]),
    (.reg [o 17 (.mov (T 4)), o 18 (.idxAddr 1 (T 17) (I 0)), o 19 (.load false 1 (T 18)), o 20 (.bin .rem (T 19) (I 200)), o 21 (.bin .add (I 20) (T 20)), o 5 (.mov (T 21))]),
    (.reg [o 23 (.load true 1 (T 3)), o 24 (.mov (T 5)), o 25 (.call 7 [(T 23), (T 24)]), o 22 (.mov (T 25)), o 26 (.ext 0 (T 22)), o 27 (.ext 1 (T 22)), o 6 (.hole 1), o 6 (.birth 1 (T 6) (T 26)), o 7 (.mov (T 27))]),
    (.reg [o 8 (.mov (B false))]),
    (sqs [
      (.reg [o 9 (.mov (I 0))]),
      (.block 0
        (.loop
          (sqs [
            (sqs [
              (.reg [o 28 (.mov (T 9)), o 29 (.fieldAddr 0 (T 3)), o 30 (.load false 1 (T 29)), o 31 (.len (T 30)), o 32 (.bin .lss (T 28) (T 31))]),
              (.cond (T 32)
                .skip
                (.exit 0))]),
            (.block 1
              (.reg [o 35 (.mov (T 8)), o 36 (.mov (T 35)), og 37 (.fieldAddr 0 (T 3)) 36 false, og 38 (.load false 1 (T 37)) 36 false, og 39 (.mov (T 9)) 36 false, og 40 (.idxAddr 4 (T 38) (T 39)) 36 false, og 41 (.load true 4 (T 40)) 36 false, og 42 (.call 8 [(T 41)]) 36 false, og 43 (.mov (T 5)) 36 false, og 44 (.bin .gtr (T 42) (T 43)) 36 false, o 45 (.pick (T 36) (B true) (T 44)), o 8 (.mov (T 45))])),
            (.reg [o 33 (.mov (T 9)), o 34 (.bin .add (T 33) (I 1)), o 9 (.mov (T 34))])])))]),
    (sqs [
      (.reg [o 10 (.mov (I 0))]),
      (.block 2
        (.loop
          (sqs [
            (sqs [
              (.reg [o 46 (.mov (T 10)), o 47 (.fieldAddr 0 (T 6)), o 48 (.load false 1 (T 47)), o 49 (.len (T 48)), o 50 (.bin .lss (T 46) (T 49)), o 51 (.mov (T 50)), og 52 (.mov (T 7)) 51 true, o 53 (.pick (T 51) (T 52) (B false))]),
              (.cond (T 53)
                .skip
                (.exit 2))]),
            (.block 3
              (sqs [
                (.reg [o 56 (.fieldAddr 0 (T 6)), o 57 (.load false 1 (T 56)), o 58 (.mov (T 10)), o 59 (.idxAddr 4 (T 57) (T 58)), o 60 (.load true 4 (T 59)), o 61 (.call 8 [(T 60)]), o 62 (.mov (T 5)), o 63 (.bin .gtr (T 61) (T 62))]),
                (.cond (T 63)
                  (sqs [
                    (.reg [o 2 (.mov (B false))]),
                    .ret])
                  .skip)])),
            (.reg [o 54 (.mov (T 10)), o 55 (.bin .add (T 54) (I 1)), o 10 (.mov (T 55))])])))]),
    (.regD [o 64 (.load true 1 (T 6)), o 65 (.call 9 [(T 64)]), o 66 (.mov (T 65)), og 67 (.mov (T 8)) 66 true, og 68 (.mov (T 67)) 66 true, og 69 (.mov (T 7)) 68 false, og 70 (.pick (T 68) (B true) (T 69)) 66 true, o 71 (.pick (T 66) (T 70) (B false)), o 72 (.mov (T 71)), og 73 (.mov (T 7)) 72 true, og 74 (.mov (T 73)) 72 true, og 75 (.mov (T 8)) 74 true, og 76 (.pick (T 74) (T 75) (B false)) 72 true, og 77 (.mov (T 76)) 72 true, ⟨some 78, (.load true 1 (T 6)), some (77, false), 14, []⟩, ⟨some 80, (.load true 1 (T 3)), some (77, false), 16, []⟩, ⟨some 79, (.call 10 [(T 78)]), some (77, false), 0, [16]⟩, og 81 (.call 10 [(T 80)]) 77 false, og 82 (.bin .eql (T 79) (T 81)) 77 false, og 83 (.pick (T 77) (B true) (T 82)) 72 true, o 84 (.pick (T 72) (T 83) (B false)), o 2 (.mov (T 84))]),
    .ret])
theorem ok3 : cfn Tryz.prog Tryz.f3 1 = some (s3, [.tmp 2]) := by kernel_rfl

/-! 4 laws.big -/
def s4 : SCode :=
  (sqs [
    (.reg [o 2 (.mov (B false))]),
    (.reg [o 3 (.mov (T 0)), o 4 (.len (T 3)), o 5 (.bin .gtr (T 4) (I 1048576)), o 2 (.mov (T 5))]),
    .ret])
theorem ok4 : cfn Tryz.prog Tryz.f4 1 = some (s4, [.tmp 2]) := by kernel_rfl

/-! 5 spec.DrawRigid -/
def s5 : SCode :=
  (sqs [
    (.reg [o 2 (.zero [.nils])]),
    (.reg [o 3 (.mov (T 0)), o 4 (.call 12 [(T 3)]), o 5 (.call 11 [(T 4)]), on_ (.store 1 (T 2) (T 5))]),
    .ret])
theorem ok5 : cfn Tryz.prog Tryz.f5 1 = some (s5, [.cell 2 true 1]) := by kernel_rfl

/-! 6 spec.DrawPlaces -/
def s6 : SCode :=
  (sqs [
    (.reg [o 2 (.mov N)]),
    (.reg [o 6 (.mov (T 0)), o 7 (.call 12 [(T 6)]), o 3 (.mov (T 7))]),
    (.reg [o 8 (.lit 0 1 [(.int .i64 0)] []), o 4 (.mov (T 8))]),
    (sqs [
      (.reg [o 5 (.mov (I 0))]),
      (.block 0
        (.loop
          (sqs [
            (sqs [
              (.reg [o 9 (.mov (T 5)), o 10 (.bin .lss (T 9) (I 12))]),
              (.cond (T 10)
                .skip
                (.exit 0))]),
            (.block 1
              (.reg [o 13 (.mov (T 4)), o 14 (.mov (T 3)), o 15 (.call 13 [(T 14), (I 10000)]), o 16 (.lit 1 1 [(.int .i64 0)] [(0, (T 15))]), o 17 (.append 1 8 (T 13) (T 16)), o 4 (.mov (T 17))])),
            (.reg [o 11 (.mov (T 5)), o 12 (.bin .add (T 11) (I 1)), o 5 (.mov (T 12))])])))]),
    (.reg [o 18 (.mov (T 4)), o 2 (.mov (T 18))]),
    .ret])
theorem ok6 : cfn Tryz.prog Tryz.f6 1 = some (s6, [.tmp 2]) := by kernel_rfl

/-! 7 impl.SplitUntil -/
def s7 : SCode :=
  (sqs [
    (.reg [o 2 (.box 1 (T 0)), o 3 (.box 1 (T 1)), o 4 (.zero [.nils]), o 5 (.mov (B false))]),
    (.reg [o 9 (.load true 1 (T 2)), o 10 (.call 14 [(T 9)]), o 6 (.hole 1), o 6 (.birth 1 (T 6) (T 10))]),
    (sqs [
      (.reg [o 11 (.load true 1 (T 2)), o 12 (.call 9 [(T 11)]), o 13 (.not (T 12))]),
      (.cond (T 13)
        (sqs [
          (.reg [o 14 (.load true 1 (T 6)), on_ (.store 1 (T 4) (T 14)), o 5 (.mov (B false))]),
          .ret])
        .skip)]),
    (.block 0
      (.loop
        (.block 1
          (sqs [
            (.reg [o 15 (.fieldAddr 0 (T 6)), o 16 (.load false 1 (T 15)), o 17 (.mkfn 16 [(T 3)]), o 18 (.call 15 [(T 16), (T 17)]), o 7 (.mov (T 18))]),
            (sqs [
              (.reg [o 19 (.mov (T 7)), o 20 (.bin .lss (T 19) (I 0))]),
              (.cond (T 20)
                (sqs [
                  (.reg [o 21 (.load true 1 (T 6)), on_ (.store 1 (T 4) (T 21)), o 5 (.mov (B true))]),
                  .ret])
                .skip)]),
            (.reg [o 22 (.fieldAddr 0 (T 6)), o 23 (.load false 1 (T 22)), o 24 (.mov (T 7)), o 25 (.idxAddr 4 (T 23) (T 24)), o 26 (.fieldAddr 0 (T 25)), o 27 (.load false 1 (T 26)), o 28 (.call 17 [(T 27)]), o 8 (.mov (T 28))]),
            (sqs [
              (.reg [o 29 (.mov (T 8)), o 30 (.len (T 29)), o 31 (.bin .eql (T 30) (I 0)), o 32 (.mov (T 31)), og 33 (.fieldAddr 0 (T 6)) 32 false, og 34 (.load false 1 (T 33)) 32 false, og 35 (.len (T 34)) 32 false, og 36 (.bin .eql (T 35) (I 6)) 32 false, o 37 (.pick (T 32) (B true) (T 36))]),
              (.cond (T 37)
                (sqs [
                  (.reg [o 38 (.load true 1 (T 2)), o 39 (.call 14 [(T 38)]), on_ (.store 1 (T 4) (T 39)), o 5 (.mov (B false))]),
                  .ret])
                .skip)]),
            (.regD [o 40 (.load true 1 (T 6)), o 41 (.mov (T 7)), o 42 (.mov (T 8)), o 43 (.mov (T 8)), o 44 (.len (T 43)), o 45 (.bin .sub (T 44) (I 1)), o 46 (.idxAddr 1 (T 42) (T 45)), ⟨some 47, (.load false 1 (T 46)), none, 7, []⟩, o 48 (.call 18 [(T 40), (T 41), (T 47)]), on_ (.store 1 (T 6) (T 48))])]))))])
theorem ok7 : cfn Tryz.prog Tryz.f7 2 = some (s7, [.cell 4 true 1, .tmp 5]) := by kernel_rfl

/-! 8 impl.BootBound -/
def s8 : SCode :=
  (sqs [
    (.reg [o 1 (.box 4 (T 0)), o 2 (.mov (I 0))]),
    (sqs [
      (.reg [o 3 (.load true 4 (T 1)), o 4 (.call 19 [(T 3)]), o 5 (.not (T 4))]),
      (.cond (T 5)
        (sqs [
          (.reg [o 2 (.mov (I (-1)))]),
          .ret])
        .skip)]),
    (.regD [o 6 (.load true 4 (T 1)), ⟨some 8, (.load true 4 (T 1)), none, 2, []⟩, ⟨some 7, (.call 20 [(T 6)]), none, 0, [2]⟩, o 9 (.call 22 [(T 8)]), o 10 (.len (T 9)), o 11 (.call 21 [(T 10)]), o 12 (.bin .add (T 7) (T 11)), o 2 (.mov (T 12))]),
    .ret])
theorem ok8 : cfn Tryz.prog Tryz.f8 1 = some (s8, [.tmp 2]) := by kernel_rfl

/-! 9 impl.IsRigid -/
def s9 : SCode :=
  (sqs [
    (.reg [o 1 (.box 1 (T 0)), o 2 (.mov (B false))]),
    (.reg [o 4 (.make 1 8 [(.int .i64 0)] (I 8)), o 3 (.hole 1), o 3 (.birth 1 (T 3) (T 4))]),
    (.reg [o 5 (.load true 1 (T 1)), o 6 (.call 23 [(T 5)]), o 7 (.mov (T 6)), og 8 (.fieldAddr 0 (T 1)) 7 true, og 9 (.load false 1 (T 8)) 7 true, og 10 (.mkfn 25 [(T 3), (T 1)]) 7 true, og 11 (.call 24 [(T 9), (T 10)]) 7 true, og 12 (.not (T 11)) 7 true, o 13 (.pick (T 7) (T 12) (B false)), o 2 (.mov (T 13))]),
    .ret])
theorem ok9 : cfn Tryz.prog Tryz.f9 1 = some (s9, [.tmp 2]) := by kernel_rfl

/-! 11 spec.l22Rigid -/
def s11 : SCode :=
  (sqs [
    (.reg [o 2 (.zero [.nils])]),
    (.reg [o 5 (.mov (T 0)), o 6 (.call 33 [(T 5)]), o 3 (.hole 1), o 3 (.birth 1 (T 3) (T 6))]),
    (sqs [
      (.reg [o 4 (.mov (I 0))]),
      (.block 0
        (.loop
          (sqs [
            (sqs [
              (.reg [o 7 (.mov (T 4)), o 8 (.fieldAddr 0 (T 3)), o 9 (.load false 1 (T 8)), o 10 (.len (T 9)), o 11 (.bin .lss (T 7) (T 10))]),
              (.cond (T 11)
                .skip
                (.exit 0))]),
            (.block 1
              (.regD [o 14 (.fieldAddr 0 (T 3)), ⟨some 15, (.load false 1 (T 14)), none, 1, []⟩, o 16 (.mov (T 4)), o 17 (.mov (T 0)), o 18 (.fieldAddr 0 (T 3)), ⟨some 19, (.load false 1 (T 18)), none, 5, []⟩, o 20 (.len (T 19)), ⟨some 21, (.call 13 [(T 17), (T 20)]), none, 0, [1]⟩, o 22 (.build [(.int .i64 0), (.int .i64 0), (.int .i64 0)] [(0, 1, (I 1)), (1, 1, (T 21))]), o 23 (.idxAddr 4 (T 15) (T 16)), o 24 (.fieldAddr 1 (T 23)), on_ (.store 3 (T 24) (T 22))])),
            (.reg [o 12 (.mov (T 4)), o 13 (.bin .add (T 12) (I 1)), o 4 (.mov (T 13))])])))]),
    (.reg [o 25 (.load true 1 (T 3)), on_ (.store 1 (T 2) (T 25))]),
    .ret])
theorem ok11 : cfn Tryz.prog Tryz.f11 1 = some (s11, [.cell 2 true 1]) := by kernel_rfl

/-! 12 spec.l01New -/
def s12 : SCode :=
  (sqs [
    (.reg [o 2 (.mov (.val .nilp))]),
    (.reg [o 5 (.mov (T 0)), o 6 (.len (T 5)), o 7 (.bin .add (I 98347) (T 6)), o 3 (.mov (T 7))]),
    (sqs [
      (.reg [o 4 (.mov (I 0))]),
      (.block 0
        (.loop
          (sqs [
            (sqs [
              (.reg [o 8 (.mov (T 4)), o 9 (.mov (T 0)), o 10 (.len (T 9)), o 11 (.bin .lss (T 8) (T 10)), o 12 (.mov (T 11)), og 13 (.mov (T 4)) 12 true, og 14 (.bin .lss (T 13) (I 4000)) 12 true, o 15 (.pick (T 12) (T 14) (B false))]),
              (.cond (T 15)
                .skip
                (.exit 0))]),
            (.block 1
              (.reg [o 18 (.mov (T 3)), o 19 (.bin .mul (T 18) (I 131)), o 20 (.mov (T 0)), o 21 (.mov (T 4)), o 22 (.idxAddr 1 (T 20) (T 21)), o 23 (.load false 1 (T 22)), o 24 (.conv .i64 (T 23)), o 25 (.bin .add (T 19) (T 24)), o 26 (.bin .add (T 25) (I 7)), o 27 (.bin .and (T 26) (I 1073741823)), o 3 (.mov (T 27))])),
            (.reg [o 16 (.mov (T 4)), o 17 (.bin .add (T 16) (I 1)), o 4 (.mov (T 17))])])))]),
    (.reg [o 28 (.mov (T 0)), o 29 (.mov (T 3)), o 30 (.build [.nils, (.int .i64 0), (.int .i64 0)] [(0, 1, (T 28)), (2, 1, (T 29))]), o 31 (.box 3 (T 30)), o 2 (.mov (T 31))]),
    .ret])
theorem ok12 : cfn Tryz.prog Tryz.f12 1 = some (s12, [.tmp 2]) := by kernel_rfl

/-! 13 spec.l01Below -/
def s13 : SCode :=
  (sqs [
    (.reg [o 4 (.mov (I 0))]),
    (sqs [
      (.reg [o 9 (.mov (T 1)), o 10 (.bin .leq (T 9) (I 0))]),
      (.cond (T 10)
        (sqs [
          (.reg [o 4 (.mov (I 0))]),
          .ret])
        .skip)]),
    (sqs [
      (.reg [o 11 (.mov (T 1)), o 12 (.bin .leq (T 11) (I 256))]),
      (.cond (T 12)
        (sqs [
          (.reg [o 13 (.mov (T 0)), o 14 (.call 34 [(T 13)]), o 15 (.mov (T 1)), o 16 (.bin .rem (T 14) (T 15)), o 4 (.mov (T 16))]),
          .ret])
        .skip)]),
    (.reg [o 17 (.mov (T 0)), o 18 (.call 34 [(T 17)]), o 5 (.mov (T 18))]),
    (.reg [o 19 (.mov (T 0)), o 20 (.call 34 [(T 19)]), o 6 (.mov (T 20))]),
    (.reg [o 21 (.mov (T 0)), o 22 (.call 34 [(T 21)]), o 7 (.mov (T 22))]),
    (.reg [o 23 (.mov (T 0)), o 24 (.call 34 [(T 23)]), o 8 (.mov (T 24))]),
    (.reg [o 25 (.mov (T 5)), o 26 (.bin .mul (T 25) (I 16777216)), o 27 (.mov (T 6)), o 28 (.bin .mul (T 27) (I 65536)), o 29 (.bin .add (T 26) (T 28)), o 30 (.mov (T 7)), o 31 (.bin .mul (T 30) (I 256)), o 32 (.bin .add (T 29) (T 31)), o 33 (.mov (T 8)), o 34 (.bin .add (T 32) (T 33)), o 35 (.mov (T 1)), o 36 (.bin .rem (T 34) (T 35)), o 4 (.mov (T 36))]),
    .ret])
theorem ok13 : cfn Tryz.prog Tryz.f13 2 = some (s13, [.tmp 4]) := by kernel_rfl

/-! 14 impl.copyProgram -/
def s14 : SCode :=
  (sqs [
    (.reg [o 1 (.box 1 (T 0)), o 2 (.zero [.nils])]),
    (.reg [o 6 (.build [.nils] []), o 3 (.hole 1), o 3 (.birth 1 (T 3) (T 6))]),
    (sqs [
      (.reg [o 7 (.fieldAddr 0 (T 1)), o 8 (.load false 1 (T 7)), o 9 (.len (T 8)), o 10 (.mov (I 0))]),
      (.block 0
        (.loop
          (sqs [
            (.reg [o 11 (.bin .lss (T 10) (T 9))]),
            (.cond (T 11)
              .skip
              (.exit 0)),
            (.block 1
              (sqs [
                (.reg [o 12 (.idxAddr 4 (T 8) (T 10)), o 13 (.load true 4 (T 12)), o 5 (.hole 4), o 5 (.birth 4 (T 5) (T 13))]),
                (.regD [o 14 (.fieldAddr 0 (T 3)), ⟨some 15, (.load false 1 (T 14)), none, 1, []⟩, ⟨some 16, (.load true 4 (T 5)), none, 2, []⟩, ⟨some 17, (.call 35 [(T 16)]), none, 0, [1]⟩, ⟨some 18, (.lit 1 4 [.nils, (.int .i64 0), (.int .i64 0), (.int .i64 0)] [(0, (T 17))]), none, 0, [1]⟩, o 19 (.append 4 48 (T 15) (T 18)), o 20 (.fieldAddr 0 (T 3)), on_ (.store 1 (T 20) (T 19))])])),
            (.reg [o 21 (.bin .add (T 10) (I 1)), o 10 (.mov (T 21))])])))]),
    (.reg [o 22 (.load true 1 (T 3)), on_ (.store 1 (T 2) (T 22))]),
    .ret])
theorem ok14 : cfn Tryz.prog Tryz.f14 1 = some (s14, [.cell 2 true 1]) := by kernel_rfl

/-! 15 slices.IndexFunc[[]impl.Task,impl.Task] -/
def s15 : SCode :=
  (sqs [
    (.reg [o 4 (.mov (I 0))]),
    (sqs [
      (.reg [o 6 (.mov (T 0)), o 7 (.len (T 6)), o 8 (.mov (I 0))]),
      (.block 0
        (.loop
          (sqs [
            (.reg [o 9 (.bin .lss (T 8) (T 7))]),
            (.cond (T 9)
              .skip
              (.exit 0)),
            (.block 1
              (sqs [
                (.reg [o 10 (.mov (T 8)), o 5 (.mov (T 10))]),
                (.reg [o 11 (.mov (T 1)), o 12 (.mov (T 0)), o 13 (.mov (T 5)), o 14 (.idxAddr 4 (T 12) (T 13)), o 15 (.load true 4 (T 14)), o 16 (.callv (T 11) [(T 15)])]),
                (.cond (T 16)
                  (sqs [
                    (.reg [o 17 (.mov (T 5)), o 4 (.mov (T 17))]),
                    .ret])
                  .skip)])),
            (.reg [o 18 (.bin .add (T 8) (I 1)), o 8 (.mov (T 18))])])))]),
    (.reg [o 4 (.mov (I (-1)))]),
    .ret])
theorem ok15 : cfn Tryz.prog Tryz.f15 2 = some (s15, [.tmp 4]) := by kernel_rfl

/-! 16 impl.SplitUntil$1 -/
def s16 : SCode :=
  (sqs [
    (.reg [o 2 (.box 4 (T 0)), o 3 (.mov (B false))]),
    (.regD [o 4 (.load true 4 (T 2)), ⟨some 6, (.load false 1 (T 1)), none, 2, []⟩, ⟨some 5, (.call 8 [(T 4)]), none, 0, [2]⟩, o 7 (.bin .gtr (T 5) (T 6)), o 3 (.mov (T 7))]),
    .ret])
theorem ok16 : cfn Tryz.prog Tryz.f16 2 = some (s16, [.tmp 3]) := by kernel_rfl

/-! 17 impl.CutPoints -/
def s17 : SCode :=
  (sqs [
    (.reg [o 2 (.mov N)]),
    (sqs [
      (.reg [o 5 (.mov (T 0)), o 6 (.call 36 [(T 5)]), o 7 (.not (T 6))]),
      (.cond (T 7)
        (sqs [
          (.reg [o 2 (.mov N)]),
          .ret])
        .skip)]),
    (.reg [o 8 (.lit 0 1 [(.int .i64 0)] []), o 3 (.mov (T 8))]),
    (sqs [
      (.reg [o 4 (.mov (I 1))]),
      (.block 0
        (.loop
          (sqs [
            (sqs [
              (.reg [o 9 (.mov (T 4)), o 10 (.mov (T 0)), o 11 (.len (T 10)), o 12 (.bin .lss (T 9) (T 11))]),
              (.cond (T 12)
                .skip
                (.exit 0))]),
            (.block 1
              (sqs [
                (.reg [o 15 (.mov (T 0)), o 16 (.mov (T 4)), o 17 (.call 37 [(T 15), (T 16)]), o 18 (.bin .eql (T 17) (I 0)), o 19 (.mov (T 18)), og 20 (.mov (T 0)) 19 true, og 21 (.mov (T 4)) 19 true, og 22 (.idxAddr 6 (T 20) (T 21)) 19 true, og 23 (.fieldAddr 0 (T 22)) 19 true, og 24 (.load false 1 (T 23)) 19 true, og 25 (.bin .neq (T 24) (I 6)) 19 true, o 26 (.pick (T 19) (T 25) (B false))]),
                (.cond (T 26)
                  (.reg [o 27 (.mov (T 3)), o 28 (.mov (T 4)), o 29 (.lit 1 1 [(.int .i64 0)] [(0, (T 28))]), o 30 (.append 1 8 (T 27) (T 29)), o 3 (.mov (T 30))])
                  .skip)])),
            (.reg [o 13 (.mov (T 4)), o 14 (.bin .add (T 13) (I 1)), o 4 (.mov (T 14))])])))]),
    (.reg [o 31 (.mov (T 3)), o 2 (.mov (T 31))]),
    .ret])
theorem ok17 : cfn Tryz.prog Tryz.f17 1 = some (s17, [.tmp 2]) := by kernel_rfl

/-! 18 impl.split -/
def s18 : SCode :=
  (sqs [
    (.reg [o 3 (.box 1 (T 0)), o 6 (.zero [.nils])]),
    (.reg [o 10 (.load true 1 (T 3)), o 11 (.call 14 [(T 10)]), o 7 (.hole 1), o 7 (.birth 1 (T 7) (T 11))]),
    (.reg [o 12 (.fieldAddr 0 (T 7)), o 13 (.load false 1 (T 12)), o 14 (.mov (T 1)), o 15 (.idxAddr 4 (T 13) (T 14)), o 16 (.load true 4 (T 15)), o 8 (.hole 4), o 8 (.birth 4 (T 8) (T 16))]),
    (.regD [o 17 (.fieldAddr 0 (T 8)), ⟨some 18, (.load false 1 (T 17)), none, 1, []⟩, o 19 (.mov (T 2)), o 20 (.slice 6 (T 18) (some (T 19)) none), o 22 (.fieldAddr 1 (T 8)), ⟨some 23, (.load true 3 (T 22)), none, 6, []⟩, o 9 (.hole 4), ⟨some 21, (.call 38 [(T 20)]), none, 0, [6]⟩, o 24 (.build [.nils, (.int .i64 0), (.int .i64 0), (.int .i64 0)] [(0, 1, (T 21)), (1, 3, (T 23))]), o 9 (.birth 4 (T 9) (T 24))]),
    (.regD [o 25 (.fieldAddr 0 (T 7)), ⟨some 26, (.load false 1 (T 25)), none, 1, []⟩, o 27 (.mov (T 1)), o 28 (.fieldAddr 0 (T 8)), ⟨some 29, (.load false 1 (T 28)), none, 4, []⟩, o 30 (.mov (T 2)), o 31 (.slice 6 (T 29) none (some (T 30))), o 33 (.fieldAddr 0 (T 3)), ⟨some 34, (.load false 1 (T 33)), none, 9, []⟩, o 35 (.len (T 34)), o 36 (.build [(.int .i64 0), (.int .i64 0), (.int .i64 0)] [(0, 1, (I 1)), (1, 1, (T 35))]), ⟨some 32, (.call 38 [(T 31)]), none, 0, [1, 9]⟩, o 37 (.build [.nils, (.int .i64 0), (.int .i64 0), (.int .i64 0)] [(0, 1, (T 32)), (1, 3, (T 36))]), o 38 (.idxAddr 4 (T 26) (T 27)), on_ (.store 4 (T 38) (T 37))]),
    (.reg [o 39 (.fieldAddr 0 (T 7)), o 40 (.load false 1 (T 39)), o 41 (.load true 4 (T 9)), o 42 (.lit 1 4 [.nils, (.int .i64 0), (.int .i64 0), (.int .i64 0)] [(0, (T 41))]), o 43 (.append 4 48 (T 40) (T 42)), o 44 (.fieldAddr 0 (T 7)), on_ (.store 1 (T 44) (T 43))]),
    (.reg [o 45 (.load true 1 (T 7)), on_ (.store 1 (T 6) (T 45))]),
    .ret])
theorem ok18 : cfn Tryz.prog Tryz.f18 3 = some (s18, [.cell 6 true 1]) := by kernel_rfl

/-! 19 impl.taskOk -/
def s19 : SCode :=
  (sqs [
    (.reg [o 1 (.box 4 (T 0)), o 2 (.mov (B false))]),
    (.reg [o 3 (.fieldAddr 0 (T 1)), o 4 (.load false 1 (T 3)), o 5 (.call 36 [(T 4)]), o 6 (.mov (T 5)), og 7 (.fieldAddr 1 (T 1)) 6 true, og 8 (.load true 3 (T 7)) 6 true, og 9 (.call 39 [(T 8)]) 6 true, o 10 (.pick (T 6) (T 9) (B false)), o 2 (.mov (T 10))]),
    .ret])
theorem ok19 : cfn Tryz.prog Tryz.f19 1 = some (s19, [.tmp 2]) := by kernel_rfl

/-! 20 impl.TaskBound -/
def s20 : SCode :=
  (sqs [
    (.reg [o 1 (.box 4 (T 0)), o 2 (.mov (I 0))]),
    (sqs [
      (.reg [o 3 (.load true 4 (T 1)), o 4 (.call 19 [(T 3)]), o 5 (.not (T 4))]),
      (.cond (T 5)
        (sqs [
          (.reg [o 2 (.mov (I (-1)))]),
          .ret])
        .skip)]),
    (.regD [o 6 (.fieldAddr 0 (T 1)), ⟨some 7, (.load false 1 (T 6)), none, 1, []⟩, ⟨some 9, (.load true 4 (T 1)), none, 3, []⟩, ⟨some 8, (.call 40 [(T 7)]), none, 0, [3]⟩, o 10 (.call 22 [(T 9)]), o 11 (.len (T 10)), o 12 (.bin .mul (I 9) (T 11)), o 13 (.bin .add (T 8) (T 12)), o 14 (.bin .add (T 13) (I 1)), o 15 (.bin .add (T 14) (I 3)), o 2 (.mov (T 15))]),
    .ret])
theorem ok20 : cfn Tryz.prog Tryz.f20 1 = some (s20, [.tmp 2]) := by kernel_rfl

/-! 21 impl.RecoveryCost -/
def s21 : SCode :=
  (sqs [
    (.reg [o 2 (.mov (I 0))]),
    (.block 0
      (sqs [
        (.reg [o 4 (.mov (T 0)), o 5 (.call 27 [(T 4), (I 0), (I 8)]), o 6 (.not (T 5)), o 3 (.mov (T 6))]),
        (.cond (T 3)
          (sqs [
            (.reg [o 2 (.mov (I (-1)))]),
            .ret])
          (sqs [
            (.reg [o 8 (.mov (T 0)), o 9 (.bin .eql (T 8) (I 0)), o 7 (.mov (T 9))]),
            (.cond (T 7)
              (sqs [
                (.reg [o 2 (.mov (I 0))]),
                .ret])
              .skip)]))])),
    (.reg [o 10 (.mov (T 0)), o 11 (.bin .add (T 10) (I 1)), o 12 (.bin .mul (I 3) (T 11)), o 2 (.mov (T 12))]),
    .ret])
theorem ok21 : cfn Tryz.prog Tryz.f21 1 = some (s21, [.tmp 2]) := by kernel_rfl

/-! 22 impl.MustLog -/
def s22 : SCode :=
  (sqs [
    (.reg [o 1 (.box 4 (T 0)), o 2 (.mov N)]),
    (sqs [
      (.reg [o 5 (.load true 4 (T 1)), o 6 (.call 19 [(T 5)]), o 7 (.not (T 6))]),
      (.cond (T 7)
        (sqs [
          (.reg [o 2 (.mov N)]),
          .ret])
        .skip)]),
    (.regD [o 8 (.load true 4 (T 1)), o 10 (.fieldAddr 0 (T 1)), ⟨some 11, (.load false 1 (T 10)), none, 3, []⟩, o 3 (.hole 1), o 4 (.hole 1), ⟨some 9, (.call 41 [(T 8)]), none, 0, [3]⟩, o 12 (.call 42 [(T 11)]), o 3 (.birth 1 (T 3) (T 9)), o 4 (.birth 1 (T 4) (T 12))]),
    (.reg [o 13 (.fieldAddr 0 (T 1)), o 14 (.load false 1 (T 13)), o 15 (.call 44 [(T 14)]), o 16 (.mkfn 45 [(T 3), (T 4)]), o 17 (.call 43 [(T 15), (T 16)]), o 2 (.mov (T 17))]),
    .ret])
theorem ok22 : cfn Tryz.prog Tryz.f22 1 = some (s22, [.tmp 2]) := by kernel_rfl

/-! 23 impl.ProgramOk -/
def s23 : SCode :=
  (sqs [
    (.reg [o 1 (.box 1 (T 0)), o 2 (.mov (B false))]),
    (.reg [o 3 (.fieldAddr 0 (T 1)), o 4 (.load false 1 (T 3)), o 5 (.len (T 4)), o 6 (.call 27 [(T 5), (I 1), (I 6)]), o 7 (.mov (T 6)), og 8 (.fieldAddr 0 (T 1)) 7 true, og 9 (.load false 1 (T 8)) 7 true, og 10 (.call 24 [(T 9), (.val (.fn 47 []))]) 7 true, og 11 (.not (T 10)) 7 true, o 12 (.pick (T 7) (T 11) (B false)), o 2 (.mov (T 12))]),
    .ret])
theorem ok23 : cfn Tryz.prog Tryz.f23 1 = some (s23, [.tmp 2]) := by kernel_rfl

/-! 24 slices.ContainsFunc[[]impl.Task,impl.Task] -/
def s24 : SCode :=
  (sqs [
    (.reg [o 4 (.mov (B false))]),
    (.reg [o 5 (.mov (T 0)), o 6 (.mov (T 1)), o 7 (.call 15 [(T 5), (T 6)]), o 8 (.bin .geq (T 7) (I 0)), o 4 (.mov (T 8))]),
    .ret])
theorem ok24 : cfn Tryz.prog Tryz.f24 2 = some (s24, [.tmp 4]) := by kernel_rfl

/-! 25 impl.IsRigid$1 -/
def s25 : SCode :=
  (sqs [
    (.reg [o 3 (.box 4 (T 0)), o 4 (.mov (B false))]),
    (.regD [o 5 (.fieldAddr 1 (T 3)), ⟨some 6, (.load true 3 (T 5)), none, 1, []⟩, o 7 (.call 26 [(T 6)]), o 8 (.len (T 7)), o 9 (.bin .gtr (T 8) (I 0)), o 10 (.mov (T 9)), ⟨some 11, (.load false 1 (T 1)), some (10, false), 6, []⟩, og 12 (.fieldAddr 1 (T 3)) 10 false, ⟨some 13, (.load true 3 (T 12)), some (10, false), 8, []⟩, og 15 (.fieldAddr 0 (T 2)) 10 false, ⟨some 16, (.load false 1 (T 15)), some (10, false), 11, []⟩, og 17 (.len (T 16)) 10 false, og 18 (.bin .sub (T 17) (I 1)) 10 false, ⟨some 14, (.call 28 [(T 11), (T 13)]), some (10, false), 0, [11]⟩, og 19 (.call 27 [(T 14), (I 0), (T 18)]) 10 false, og 20 (.not (T 19)) 10 false, o 21 (.pick (T 10) (B true) (T 20)), o 4 (.mov (T 21))]),
    .ret])
theorem ok25 : cfn Tryz.prog Tryz.f25 3 = some (s25, [.tmp 4]) := by kernel_rfl

/-! 26 impl.ReadsOf -/
def s26 : SCode :=
  (sqs [
    (.reg [o 1 (.box 3 (T 0)), o 2 (.mov N)]),
    (sqs [
      (.reg [o 6 (.load true 3 (T 1)), o 7 (.call 39 [(T 6)]), o 8 (.not (T 7))]),
      (.cond (T 8)
        (sqs [
          (.reg [o 2 (.mov N)]),
          .ret])
        .skip)]),
    (.reg [o 9 (.lit 0 1 [(.int .i64 0)] []), o 3 (.mov (T 9))]),
    (sqs [
      (.reg [o 10 (.fieldAddr 1 (T 1)), o 11 (.load false 1 (T 10)), o 12 (.fieldAddr 2 (T 1)), o 13 (.load false 1 (T 12)), o 14 (.lit 2 1 [(.int .i64 0)] [(0, (T 11)), (1, (T 13))]), o 15 (.len (T 14)), o 16 (.mov (I 0))]),
      (.block 0
        (.loop
          (sqs [
            (.reg [o 17 (.bin .lss (T 16) (T 15))]),
            (.cond (T 17)
              .skip
              (.exit 0)),
            (.block 1
              (sqs [
                (.reg [o 18 (.idxAddr 1 (T 14) (T 16)), o 19 (.load false 1 (T 18)), o 5 (.mov (T 19))]),
                (.reg [o 20 (.mov (T 5)), o 21 (.bin .lss (T 20) (I 0))]),
                (.cond (T 21)
                  (.reg [o 22 (.mov (T 3)), o 23 (.mov (T 5)), o 24 (.bin .sub (I (-1)) (T 23)), o 25 (.lit 1 1 [(.int .i64 0)] [(0, (T 24))]), o 26 (.append 1 8 (T 22) (T 25)), o 3 (.mov (T 26))])
                  .skip)])),
            (.reg [o 27 (.bin .add (T 16) (I 1)), o 16 (.mov (T 27))])])))]),
    (.reg [o 28 (.mov (T 3)), o 29 (.call 48 [(T 28)])]),
    (.reg [o 30 (.mov (T 3)), o 31 (.call 49 [(T 30)]), o 2 (.mov (T 31))]),
    .ret])
theorem ok26 : cfn Tryz.prog Tryz.f26 1 = some (s26, [.tmp 2]) := by kernel_rfl

/-! 27 impl.within -/
def s27 : SCode :=
  (sqs [
    (.reg [o 6 (.mov (B false))]),
    (.reg [o 7 (.mov (T 0)), o 8 (.mov (T 1)), o 9 (.bin .geq (T 7) (T 8)), o 10 (.mov (T 9)), og 11 (.mov (T 0)) 10 true, og 12 (.mov (T 2)) 10 true, og 13 (.bin .leq (T 11) (T 12)) 10 true, o 14 (.pick (T 10) (T 13) (B false)), o 6 (.mov (T 14))]),
    .ret])
theorem ok27 : cfn Tryz.prog Tryz.f27 3 = some (s27, [.tmp 6]) := by kernel_rfl

/-! 28 impl.EvalExpr -/
def s28 : SCode :=
  (sqs [
    (.reg [o 3 (.box 3 (T 1)), o 4 (.mov (I 0))]),
    (sqs [
      (.reg [o 7 (.mov (T 0)), o 8 (.call 50 [(T 7)]), o 9 (.not (T 8)), o 10 (.mov (T 9)), og 11 (.load true 3 (T 3)) 10 false, og 12 (.call 39 [(T 11)]) 10 false, og 13 (.not (T 12)) 10 false, o 14 (.pick (T 10) (B true) (T 13))]),
      (.cond (T 14)
        (sqs [
          (.reg [o 4 (.mov (I 0))]),
          .ret])
        .skip)]),
    (.regD [o 15 (.mov (T 0)), o 16 (.fieldAddr 1 (T 3)), ⟨some 17, (.load false 1 (T 16)), none, 2, []⟩, o 19 (.mov (T 0)), o 20 (.fieldAddr 2 (T 3)), ⟨some 21, (.load false 1 (T 20)), none, 6, []⟩, ⟨some 18, (.call 51 [(T 15), (T 17)]), none, 0, [6]⟩, o 22 (.call 51 [(T 19), (T 21)]), o 5 (.mov (T 18)), o 6 (.mov (T 22))]),
    (sqs [
      (.reg [o 23 (.fieldAddr 0 (T 3)), o 24 (.load false 1 (T 23))]),
      (.block 0
        (sqs [
          (.reg [o 26 (.bin .eql (T 24) (I 1)), o 25 (.mov (T 26))]),
          (.cond (T 25)
            (sqs [
              (.reg [o 27 (.mov (T 5)), o 28 (.mov (T 6)), o 29 (.call 52 [(T 27), (T 28)]), o 4 (.mov (T 29))]),
              .ret])
            (sqs [
              (.reg [o 31 (.bin .eql (T 24) (I 2)), o 30 (.mov (T 31))]),
              (.cond (T 30)
                (sqs [
                  (.reg [o 32 (.mov (T 5)), o 33 (.mov (T 6)), o 34 (.call 53 [(T 32), (T 33)]), o 4 (.mov (T 34))]),
                  .ret])
                (sqs [
                  (.reg [o 36 (.bin .eql (T 24) (I 3)), o 35 (.mov (T 36))]),
                  (.cond (T 35)
                    (sqs [
                      (.reg [o 37 (.mov (T 5)), o 38 (.mov (T 6)), o 39 (.call 54 [(T 37), (T 38)]), o 4 (.mov (T 39))]),
                      .ret])
                    (sqs [
                      (.reg [o 41 (.bin .eql (T 24) (I 4)), o 40 (.mov (T 41))]),
                      (.cond (T 40)
                        (sqs [
                          (.reg [o 42 (.mov (T 5)), o 43 (.mov (T 6)), o 44 (.min (T 42) (T 43)), o 4 (.mov (T 44))]),
                          .ret])
                        (sqs [
                          (.reg [o 46 (.bin .eql (T 24) (I 5)), o 45 (.mov (T 46))]),
                          (.cond (T 45)
                            (sqs [
                              (.reg [o 47 (.mov (T 5)), o 48 (.mov (T 6)), o 49 (.max (T 47) (T 48)), o 4 (.mov (T 49))]),
                              .ret])
                            (sqs [
                              (.reg [o 51 (.bin .eql (T 24) (I 6)), o 50 (.mov (T 51))]),
                              (.cond (T 50)
                                (sqs [
                                  (.reg [o 52 (.mov (T 5)), o 53 (.mov (T 6)), o 54 (.bin .lss (T 52) (T 53)), o 55 (.call 55 [(T 54)]), o 4 (.mov (T 55))]),
                                  .ret])
                                .skip)]))]))]))]))]))]))]),
    (.reg [o 56 (.mov (T 5)), o 57 (.mov (T 6)), o 58 (.bin .eql (T 56) (T 57)), o 59 (.call 55 [(T 58)]), o 4 (.mov (T 59))]),
    .ret])
theorem ok28 : cfn Tryz.prog Tryz.f28 2 = some (s28, [.tmp 4]) := by kernel_rfl

/-! 30 impl.taskLine -/
def s30 : SCode :=
  (sqs [
    (.reg [o 1 (.box 3 (T 0)), o 2 (.mov (.val (.str (bz []))))]),
    (.reg [o 3 (.fieldAddr 0 (T 1)), o 4 (.load false 1 (T 3)), o 5 (.fieldAddr 1 (T 1)), o 6 (.load false 1 (T 5)), o 7 (.fieldAddr 2 (T 1)), o 8 (.load false 1 (T 7)), o 9 (.lit 3 1 [(.int .i64 0)] [(0, (T 4)), (1, (T 6)), (2, (T 8))]), o 10 (.call 57 [(.val (.str (bz [116, 97, 115, 107]))), (T 9)]), o 2 (.mov (T 10))]),
    .ret])
theorem ok30 : cfn Tryz.prog Tryz.f30 1 = some (s30, [.tmp 2]) := by kernel_rfl

/-! 31 impl.FormatStmt -/
def s31 : SCode :=
  (sqs [
    (.reg [o 1 (.box 6 (T 0)), o 2 (.mov (.val (.str (bz []))))]),
    (sqs [
      (.reg [o 4 (.load true 6 (T 1)), o 5 (.call 58 [(T 4)]), o 6 (.not (T 5))]),
      (.cond (T 6)
        (sqs [
          (.reg [o 2 (.mov (.val (.str (bz []))))]),
          .ret])
        .skip)]),
    (.reg [o 7 (.lit 0 1 [(.int .i64 0)] []), o 3 (.mov (T 7))]),
    (sqs [
      (.reg [o 8 (.fieldAddr 0 (T 1)), o 9 (.load false 1 (T 8)), o 10 (.call 59 [(T 9)])]),
      (.cond (T 10)
        (.reg [o 11 (.mov (T 3)), o 12 (.fieldAddr 1 (T 1)), o 13 (.load false 1 (T 12)), o 14 (.lit 1 1 [(.int .i64 0)] [(0, (T 13))]), o 15 (.append 1 8 (T 11) (T 14)), o 3 (.mov (T 15))])
        .skip)]),
    (sqs [
      (.reg [o 16 (.fieldAddr 0 (T 1)), o 17 (.load false 1 (T 16)), o 18 (.call 60 [(T 17)])]),
      (.cond (T 18)
        (.reg [o 19 (.mov (T 3)), o 20 (.fieldAddr 2 (T 1)), o 21 (.load false 1 (T 20)), o 22 (.lit 1 1 [(.int .i64 0)] [(0, (T 21))]), o 23 (.append 1 8 (T 19) (T 22)), o 3 (.mov (T 23))])
        .skip)]),
    (sqs [
      (.reg [o 24 (.fieldAddr 0 (T 1)), o 25 (.load false 1 (T 24)), o 26 (.call 61 [(T 25)])]),
      (.cond (T 26)
        (.reg [o 27 (.mov (T 3)), o 28 (.fieldAddr 3 (T 1)), o 29 (.fieldAddr 0 (T 28)), o 30 (.load false 1 (T 29)), o 31 (.fieldAddr 3 (T 1)), o 32 (.fieldAddr 1 (T 31)), o 33 (.load false 1 (T 32)), o 34 (.fieldAddr 3 (T 1)), o 35 (.fieldAddr 2 (T 34)), o 36 (.load false 1 (T 35)), o 37 (.lit 3 1 [(.int .i64 0)] [(0, (T 30)), (1, (T 33)), (2, (T 36))]), o 38 (.append 1 8 (T 27) (T 37)), o 3 (.mov (T 38))])
        .skip)]),
    (.regD [o 40 (.fieldAddr 0 (T 1)), ⟨some 41, (.load false 1 (T 40)), none, 2, []⟩, o 44 (.mov (T 3)), ⟨some 39, (.call 62 []), none, 0, [2]⟩, o 42 (.idxAddr 1 (T 39) (T 41)), ⟨some 43, (.load false 1 (T 42)), none, 4, []⟩, o 45 (.call 57 [(T 43), (T 44)]), o 2 (.mov (T 45))]),
    .ret])
theorem ok31 : cfn Tryz.prog Tryz.f31 1 = some (s31, [.tmp 2]) := by kernel_rfl

/-! 33 spec.l06Program -/
def s33 : SCode :=
  (sqs [
    (.reg [o 2 (.zero [.nils])]),
    (.reg [o 5 (.build [.nils] []), o 3 (.hole 1), o 3 (.birth 1 (T 3) (T 5))]),
    (sqs [
      (.reg [o 4 (.mov (I 0))]),
      (.block 0
        (.loop
          (sqs [
            (sqs [
              (.reg [o 6 (.mov (T 4)), o 7 (.mov (T 0)), o 8 (.call 13 [(T 7), (I 3)]), o 9 (.bin .add (I 1) (T 8)), o 10 (.bin .lss (T 6) (T 9))]),
              (.cond (T 10)
                .skip
                (.exit 0))]),
            (.block 1
              (.regD [o 13 (.fieldAddr 0 (T 3)), ⟨some 14, (.load false 1 (T 13)), none, 1, []⟩, o 15 (.mov (T 0)), o 17 (.mov (T 0)), ⟨some 16, (.call 63 [(T 15)]), none, 0, [1]⟩, ⟨some 18, (.call 64 [(T 17)]), none, 0, [1]⟩, o 19 (.build [.nils, (.int .i64 0), (.int .i64 0), (.int .i64 0)] [(0, 1, (T 16)), (1, 3, (T 18))]), ⟨some 20, (.lit 1 4 [.nils, (.int .i64 0), (.int .i64 0), (.int .i64 0)] [(0, (T 19))]), none, 0, [1]⟩, o 21 (.append 4 48 (T 14) (T 20)), o 22 (.fieldAddr 0 (T 3)), on_ (.store 1 (T 22) (T 21))])),
            (.reg [o 11 (.mov (T 4)), o 12 (.bin .add (T 11) (I 1)), o 4 (.mov (T 12))])])))]),
    (.reg [o 23 (.load true 1 (T 3)), on_ (.store 1 (T 2) (T 23))]),
    .ret])
theorem ok33 : cfn Tryz.prog Tryz.f33 1 = some (s33, [.cell 2 true 1]) := by kernel_rfl

/-! 34 spec.l01Byte -/
def s34 : SCode :=
  (sqs [
    (.reg [o 2 (.mov (I 0))]),
    (.reg [o 4 (.mov (T 0)), o 5 (.mov (T 0)), o 6 (.nilchk (T 5)), o 7 (.fieldAddr 2 (T 6)), o 8 (.load false 1 (T 7)), o 9 (.bin .mul (T 8) (I 6364136223846793005)), o 10 (.bin .add (T 9) (I 1442695040888963407)), o 11 (.nilchk (T 4)), o 12 (.fieldAddr 2 (T 11)), on_ (.store 1 (T 12) (T 10))]),
    (.regD [o 13 (.mov (T 0)), o 14 (.nilchk (T 13)), o 15 (.fieldAddr 2 (T 14)), ⟨some 16, (.load false 1 (T 15)), none, 3, []⟩, o 17 (.bin .shr (T 16) (.val (.int .u64 33))), o 18 (.mov (T 0)), o 19 (.nilchk (T 18)), o 20 (.fieldAddr 2 (T 19)), ⟨some 21, (.load false 1 (T 20)), none, 8, []⟩, o 22 (.bin .shr (T 21) (.val (.int .u64 45))), o 23 (.bin .xor (T 17) (T 22)), o 24 (.bin .and (T 23) (I 255)), o 3 (.mov (T 24))]),
    (sqs [
      (.regD [o 25 (.mov (T 0)), o 26 (.nilchk (T 25)), o 27 (.fieldAddr 1 (T 26)), ⟨some 28, (.load false 1 (T 27)), none, 3, []⟩, o 29 (.mov (T 0)), o 30 (.nilchk (T 29)), o 31 (.fieldAddr 0 (T 30)), ⟨some 32, (.load false 1 (T 31)), none, 7, []⟩, o 33 (.len (T 32)), o 34 (.bin .lss (T 28) (T 33))]),
      (.cond (T 34)
        (sqs [
          (.regD [o 35 (.mov (T 3)), o 36 (.mov (T 0)), o 37 (.nilchk (T 36)), o 38 (.fieldAddr 0 (T 37)), ⟨some 39, (.load false 1 (T 38)), none, 4, []⟩, o 40 (.mov (T 0)), o 41 (.nilchk (T 40)), o 42 (.fieldAddr 1 (T 41)), ⟨some 43, (.load false 1 (T 42)), none, 8, []⟩, o 44 (.idxAddr 1 (T 39) (T 43)), ⟨some 45, (.load false 1 (T 44)), none, 10, []⟩, o 46 (.conv .i64 (T 45)), o 47 (.bin .add (T 35) (T 46)), o 48 (.bin .and (T 47) (I 255)), o 3 (.mov (T 48))]),
          (.reg [o 49 (.mov (T 0)), o 50 (.mov (T 0)), o 51 (.nilchk (T 50)), o 52 (.fieldAddr 1 (T 51)), o 53 (.load false 1 (T 52)), o 54 (.bin .add (T 53) (I 1)), o 55 (.nilchk (T 49)), o 56 (.fieldAddr 1 (T 55)), on_ (.store 1 (T 56) (T 54))])])
        .skip)]),
    (.reg [o 57 (.mov (T 3)), o 2 (.mov (T 57))]),
    .ret])
theorem ok34 : cfn Tryz.prog Tryz.f34 1 = some (s34, [.tmp 2]) := by kernel_rfl

/-! 35 impl.copyTask -/
def s35 : SCode :=
  (sqs [
    (.reg [o 1 (.box 4 (T 0)), o 2 (.zero [.nils, (.int .i64 0), (.int .i64 0), (.int .i64 0)])]),
    (.reg [o 3 (.fieldAddr 0 (T 1)), o 4 (.load false 1 (T 3)), o 5 (.call 38 [(T 4)]), o 6 (.fieldAddr 0 (T 1)), on_ (.store 1 (T 6) (T 5))]),
    (.reg [o 7 (.load true 4 (T 1)), on_ (.store 4 (T 2) (T 7))]),
    .ret])
theorem ok35 : cfn Tryz.prog Tryz.f35 1 = some (s35, [.cell 2 true 4]) := by kernel_rfl

/-! 36 impl.BlockOk -/
def s36 : SCode :=
  (sqs [
    (.reg [o 2 (.mov (B false))]),
    (.reg [o 3 (.mov (I 0))]),
    (sqs [
      (.reg [o 6 (.mov (T 0)), o 7 (.len (T 6)), o 8 (.mov (I 0))]),
      (.block 0
        (.loop
          (sqs [
            (.reg [o 9 (.bin .lss (T 8) (T 7))]),
            (.cond (T 9)
              .skip
              (.exit 0)),
            (.block 1
              (sqs [
                (.reg [o 10 (.idxAddr 6 (T 6) (T 8)), o 11 (.load true 6 (T 10)), o 5 (.hole 6), o 5 (.birth 6 (T 5) (T 11))]),
                (sqs [
                  (.reg [o 12 (.load true 6 (T 5)), o 13 (.call 58 [(T 12)]), o 14 (.not (T 13))]),
                  (.cond (T 14)
                    (sqs [
                      (.reg [o 2 (.mov (B false))]),
                      .ret])
                    .skip)]),
                (sqs [
                  (.reg [o 15 (.fieldAddr 0 (T 5)), o 16 (.load false 1 (T 15)), o 17 (.call 65 [(T 16)])]),
                  (.cond (T 17)
                    (.reg [o 18 (.mov (T 3)), o 19 (.bin .add (T 18) (I 1)), o 3 (.mov (T 19))])
                    .skip)]),
                (sqs [
                  (.reg [o 20 (.fieldAddr 0 (T 5)), o 21 (.load false 1 (T 20)), o 22 (.bin .eql (T 21) (I 6))]),
                  (.cond (T 22)
                    (.reg [o 23 (.mov (T 3)), o 24 (.bin .sub (T 23) (I 1)), o 3 (.mov (T 24))])
                    .skip)]),
                (.reg [o 25 (.mov (T 3)), o 26 (.bin .lss (T 25) (I 0)), o 27 (.mov (T 26)), og 28 (.mov (T 3)) 27 false, og 29 (.bin .gtr (T 28) (I 3)) 27 false, o 30 (.pick (T 27) (B true) (T 29))]),
                (.cond (T 30)
                  (sqs [
                    (.reg [o 2 (.mov (B false))]),
                    .ret])
                  .skip)])),
            (.reg [o 31 (.bin .add (T 8) (I 1)), o 8 (.mov (T 31))])])))]),
    (.reg [o 32 (.mov (T 3)), o 33 (.bin .eql (T 32) (I 0)), o 34 (.mov (T 33)), og 35 (.mov (T 0)) 34 true, og 36 (.len (T 35)) 34 true, og 37 (.bin .leq (T 36) (I 24)) 34 true, o 38 (.pick (T 34) (T 37) (B false)), o 2 (.mov (T 38))]),
    .ret])
theorem ok36 : cfn Tryz.prog Tryz.f36 1 = some (s36, [.tmp 2]) := by kernel_rfl

/-! 37 impl.DepthOf -/
def s37 : SCode :=
  (sqs [
    (.reg [o 4 (.mov (I 0))]),
    (sqs [
      (.reg [o 8 (.mov (T 0)), o 9 (.call 36 [(T 8)]), o 10 (.not (T 9)), o 11 (.mov (T 10)), og 12 (.mov (T 1)) 11 false, og 13 (.mov (T 0)) 11 false, og 14 (.len (T 13)) 11 false, og 15 (.bin .sub (T 14) (I 1)) 11 false, og 16 (.call 27 [(T 12), (I 0), (T 15)]) 11 false, og 17 (.not (T 16)) 11 false, o 18 (.pick (T 11) (B true) (T 17))]),
      (.cond (T 18)
        (sqs [
          (.reg [o 4 (.mov (I (-1)))]),
          .ret])
        .skip)]),
    (.reg [o 5 (.mov (I 0))]),
    (sqs [
      (.reg [o 19 (.mov (T 0)), o 20 (.mov (T 1)), o 21 (.slice 6 (T 19) none (some (T 20))), o 22 (.len (T 21)), o 23 (.mov (I 0))]),
      (.block 0
        (.loop
          (sqs [
            (.reg [o 24 (.bin .lss (T 23) (T 22))]),
            (.cond (T 24)
              .skip
              (.exit 0)),
            (.block 1
              (sqs [
                (.reg [o 25 (.idxAddr 6 (T 21) (T 23)), o 26 (.load true 6 (T 25)), o 7 (.hole 6), o 7 (.birth 6 (T 7) (T 26))]),
                (sqs [
                  (.reg [o 27 (.fieldAddr 0 (T 7)), o 28 (.load false 1 (T 27)), o 29 (.call 65 [(T 28)])]),
                  (.cond (T 29)
                    (.reg [o 30 (.mov (T 5)), o 31 (.bin .add (T 30) (I 1)), o 5 (.mov (T 31))])
                    .skip)]),
                (.reg [o 32 (.fieldAddr 0 (T 7)), o 33 (.load false 1 (T 32)), o 34 (.bin .eql (T 33) (I 6))]),
                (.cond (T 34)
                  (.reg [o 35 (.mov (T 5)), o 36 (.bin .sub (T 35) (I 1)), o 5 (.mov (T 36))])
                  .skip)])),
            (.reg [o 37 (.bin .add (T 23) (I 1)), o 23 (.mov (T 37))])])))]),
    (.reg [o 38 (.mov (T 5)), o 4 (.mov (T 38))]),
    .ret])
theorem ok37 : cfn Tryz.prog Tryz.f37 2 = some (s37, [.tmp 4]) := by kernel_rfl

/-! 38 slices.Clone[[]impl.Stmt,impl.Stmt] -/
def s38 : SCode :=
  (sqs [
    (.reg [o 2 (.mov N)]),
    (sqs [
      (.reg [o 3 (.mov (T 0)), o 4 (.isnil 33 false (T 3))]),
      (.cond (T 4)
        (sqs [
          (.reg [o 2 (.mov N)]),
          .ret])
        .skip)]),
    (.reg [o 5 (.lit 0 6 [(.int .i64 0), (.int .i64 0), (.int .i64 0), (.int .i64 0), (.int .i64 0), (.int .i64 0)] []), o 6 (.mov (T 0)), o 7 (.append 6 48 (T 5) (T 6)), o 2 (.mov (T 7))]),
    .ret])
theorem ok38 : cfn Tryz.prog Tryz.f38 1 = some (s38, [.tmp 2]) := by kernel_rfl

/-! 39 impl.ExprOk -/
def s39 : SCode :=
  (sqs [
    (.reg [o 1 (.box 3 (T 0)), o 2 (.mov (B false))]),
    (.reg [o 3 (.fieldAddr 0 (T 1)), o 4 (.load false 1 (T 3)), o 5 (.call 27 [(T 4), (I 1), (I 7)]), o 6 (.mov (T 5)), og 7 (.fieldAddr 1 (T 1)) 6 true, og 8 (.load false 1 (T 7)) 6 true, og 9 (.call 66 [(T 8)]) 6 true, o 10 (.pick (T 6) (T 9) (B false)), o 11 (.mov (T 10)), og 12 (.fieldAddr 2 (T 1)) 11 true, og 13 (.load false 1 (T 12)) 11 true, og 14 (.call 66 [(T 13)]) 11 true, o 15 (.pick (T 11) (T 14) (B false)), o 2 (.mov (T 15))]),
    .ret])
theorem ok39 : cfn Tryz.prog Tryz.f39 1 = some (s39, [.tmp 2]) := by kernel_rfl

/-! 40 impl.bound -/
def s40 : SCode :=
  (sqs [
    (.reg [o 2 (.mov (I 0))]),
    (.reg [o 3 (.mov (I 0))]),
    (sqs [
      (.reg [o 4 (.mov (I 0))]),
      (.block 0
        (.loop
          (sqs [
            (sqs [
              (.reg [o 8 (.mov (T 4)), o 9 (.mov (T 0)), o 10 (.len (T 9)), o 11 (.bin .lss (T 8) (T 10))]),
              (.cond (T 11)
                .skip
                (.exit 0))]),
            (.block 1
              (sqs [
                (.reg [o 14 (.mov (T 0)), o 15 (.mov (T 4)), o 16 (.idxAddr 6 (T 14) (T 15)), o 17 (.load true 6 (T 16)), o 5 (.hole 6), o 5 (.birth 6 (T 5) (T 17))]),
                (.reg [o 18 (.mov (T 3)), o 19 (.load true 6 (T 5)), o 20 (.call 67 [(T 19)]), o 21 (.bin .add (T 18) (T 20)), o 3 (.mov (T 21))]),
                (sqs [
                  (.reg [o 22 (.fieldAddr 0 (T 5)), o 23 (.load false 1 (T 22)), o 24 (.call 65 [(T 23)]), o 25 (.not (T 24))]),
                  (.cond (T 25)
                    (sqs [
                      (.reg [o 26 (.mov (T 3)), o 27 (.bin .add (T 26) (I 3)), o 3 (.mov (T 27))]),
                      (.exit 1)])
                    .skip)]),
                (.reg [o 28 (.mov (T 0)), o 29 (.mov (T 4)), o 30 (.call 68 [(T 28), (T 29)]), o 6 (.mov (T 30))]),
                (.reg [o 7 (.mov (I 1))]),
                (sqs [
                  (.reg [o 31 (.fieldAddr 0 (T 5)), o 32 (.load false 1 (T 31)), o 33 (.bin .eql (T 32) (I 5))]),
                  (.cond (T 33)
                    (.reg [o 34 (.fieldAddr 2 (T 5)), o 35 (.load false 1 (T 34)), o 7 (.mov (T 35))])
                    .skip)]),
                (.reg [o 36 (.mov (T 3)), o 37 (.mov (T 7)), o 38 (.mov (T 0)), o 39 (.mov (T 4)), o 40 (.bin .add (T 39) (I 1)), o 41 (.mov (T 6)), o 42 (.slice 6 (T 38) (some (T 40)) (some (T 41))), o 43 (.call 40 [(T 42)]), o 44 (.bin .mul (T 37) (T 43)), o 45 (.bin .add (T 36) (T 44)), o 3 (.mov (T 45))]),
                (.reg [o 46 (.mov (T 6)), o 4 (.mov (T 46))])])),
            (.reg [o 12 (.mov (T 4)), o 13 (.bin .add (T 12) (I 1)), o 4 (.mov (T 13))])])))]),
    (.reg [o 47 (.mov (T 3)), o 2 (.mov (T 47))]),
    .ret])
theorem ok40 : cfn Tryz.prog Tryz.f40 1 = some (s40, [.tmp 2]) := by kernel_rfl

/-! 41 impl.MayReadFirst -/
def s41 : SCode :=
  (sqs [
    (.reg [o 1 (.box 4 (T 0)), o 2 (.mov N)]),
    (sqs [
      (.reg [o 7 (.load true 4 (T 1)), o 8 (.call 19 [(T 7)]), o 9 (.not (T 8))]),
      (.cond (T 9)
        (sqs [
          (.reg [o 2 (.mov N)]),
          .ret])
        .skip)]),
    (.reg [o 10 (.build [(.bool false), (.bool false), (.bool false), (.bool false), (.bool false), (.bool false), (.bool false), (.bool false), (.bool false), (.bool false), (.bool false), (.bool false), (.bool false), (.bool false), (.bool false), (.bool false)] []), o 11 (.box 16 (T 10)), o 3 (.mov (T 11))]),
    (.reg [o 12 (.mov (T 3)), o 13 (.fieldAddr 0 (T 1)), o 14 (.load false 1 (T 13)), o 15 (.call 69 [(T 12), (T 14)])]),
    (.reg [o 16 (.mov (T 3)), o 17 (.fieldAddr 1 (T 1)), o 18 (.load true 3 (T 17)), o 19 (.call 70 [(T 16), (T 18)])]),
    (.reg [o 20 (.lit 0 1 [(.int .i64 0)] []), o 4 (.mov (T 20))]),
    (sqs [
      (.reg [o 21 (.mov (T 3)), o 22 (.nilchk (T 21)), o 23 (.fieldAddr 8 (T 22)), o 24 (.load true 8 (T 23)), o 25 (.mov (I 0))]),
      (.block 0
        (.loop
          (sqs [
            (.reg [o 26 (.bin .lss (T 25) (I 8))]),
            (.cond (T 26)
              .skip
              (.exit 0)),
            (.block 1
              (sqs [
                (.reg [o 27 (.mov (T 25)), o 28 (.idx false 8 1 (T 24) (T 25)), o 5 (.mov (T 27)), o 6 (.mov (T 28))]),
                (.reg [o 29 (.mov (T 6))]),
                (.cond (T 29)
                  (.reg [o 30 (.mov (T 4)), o 31 (.mov (T 5)), o 32 (.lit 1 1 [(.int .i64 0)] [(0, (T 31))]), o 33 (.append 1 8 (T 30) (T 32)), o 4 (.mov (T 33))])
                  .skip)])),
            (.reg [o 34 (.bin .add (T 25) (I 1)), o 25 (.mov (T 34))])])))]),
    (.reg [o 35 (.mov (T 4)), o 2 (.mov (T 35))]),
    .ret])
theorem ok41 : cfn Tryz.prog Tryz.f41 1 = some (s41, [.tmp 2]) := by kernel_rfl

/-! 42 impl.MustWrite -/
def s42 : SCode :=
  (sqs [
    (.reg [o 2 (.mov N)]),
    (sqs [
      (.reg [o 7 (.mov (T 0)), o 8 (.call 36 [(T 7)]), o 9 (.not (T 8))]),
      (.cond (T 9)
        (sqs [
          (.reg [o 2 (.mov N)]),
          .ret])
        .skip)]),
    (.reg [o 10 (.mov (T 0)), o 11 (.len (T 10)), o 12 (.make 1 1 [(.bool false)] (T 11)), o 3 (.hole 1), o 3 (.birth 1 (T 3) (T 12))]),
    (sqs [
      (.reg [o 13 (.mov (T 0)), o 14 (.len (T 13)), o 15 (.mov (I 0))]),
      (.block 0
        (.loop
          (sqs [
            (.reg [o 16 (.bin .lss (T 15) (T 14))]),
            (.cond (T 16)
              .skip
              (.exit 0)),
            (.block 1
              (sqs [
                (.reg [o 17 (.mov (T 15)), o 18 (.idxAddr 6 (T 13) (T 15)), o 19 (.load true 6 (T 18)), o 5 (.hole 6), o 4 (.mov (T 17)), o 5 (.birth 6 (T 5) (T 19))]),
                (.reg [o 20 (.fieldAddr 0 (T 5)), o 21 (.load false 1 (T 20)), o 22 (.bin .eql (T 21) (I 4))]),
                (.cond (T 22)
                  (sqs [
                    (.reg [o 23 (.mov (T 4)), o 6 (.mov (T 23))]),
                    (.block 2
                      (.loop
                        (sqs [
                          (sqs [
                            (.reg [o 24 (.mov (T 6)), o 25 (.mov (T 0)), o 26 (.mov (T 4)), o 27 (.call 68 [(T 25), (T 26)]), o 28 (.bin .leq (T 24) (T 27))]),
                            (.cond (T 28)
                              .skip
                              (.exit 2))]),
                          (.block 3
                            (.reg [o 31 (.load false 1 (T 3)), o 32 (.mov (T 6)), o 33 (.idxAddr 1 (T 31) (T 32)), on_ (.store 1 (T 33) (B true))])),
                          (.reg [o 29 (.mov (T 6)), o 30 (.bin .add (T 29) (I 1)), o 6 (.mov (T 30))])])))])
                  .skip)])),
            (.reg [o 34 (.bin .add (T 15) (I 1)), o 15 (.mov (T 34))])])))]),
    (.reg [o 35 (.mov (T 0)), o 36 (.mkfn 72 [(T 3)]), o 37 (.call 71 [(T 35), (T 36)]), o 2 (.mov (T 37))]),
    .ret])
theorem ok42 : cfn Tryz.prog Tryz.f42 1 = some (s42, [.tmp 2]) := by kernel_rfl

/-! 43 slices.DeleteFunc[[]int,int] -/
def s43 : SCode :=
  (sqs [
    (.reg [o 4 (.mov N)]),
    (.reg [o 8 (.mov (T 0)), o 9 (.mov (T 1)), o 10 (.call 73 [(T 8), (T 9)]), o 5 (.mov (T 10))]),
    (sqs [
      (.reg [o 11 (.mov (T 5)), o 12 (.bin .eql (T 11) (I (-1)))]),
      (.cond (T 12)
        (sqs [
          (.reg [o 13 (.mov (T 0)), o 4 (.mov (T 13))]),
          .ret])
        .skip)]),
    (sqs [
      (.reg [o 14 (.mov (T 5)), o 15 (.bin .add (T 14) (I 1)), o 6 (.mov (T 15))]),
      (.block 0
        (.loop
          (sqs [
            (sqs [
              (.reg [o 16 (.mov (T 6)), o 17 (.mov (T 0)), o 18 (.len (T 17)), o 19 (.bin .lss (T 16) (T 18))]),
              (.cond (T 19)
                .skip
                (.exit 0))]),
            (.block 1
              (sqs [
                (.reg [o 22 (.mov (T 0)), o 23 (.mov (T 6)), o 24 (.idxAddr 1 (T 22) (T 23)), o 25 (.load false 1 (T 24)), o 7 (.mov (T 25))]),
                (.reg [o 26 (.mov (T 1)), o 27 (.mov (T 7)), o 28 (.callv (T 26) [(T 27)]), o 29 (.not (T 28))]),
                (.cond (T 29)
                  (sqs [
                    (.reg [o 30 (.mov (T 0)), o 31 (.mov (T 5)), o 32 (.mov (T 7)), o 33 (.idxAddr 1 (T 30) (T 31)), on_ (.store 1 (T 33) (T 32))]),
                    (.reg [o 34 (.mov (T 5)), o 35 (.bin .add (T 34) (I 1)), o 5 (.mov (T 35))])])
                  .skip)])),
            (.reg [o 20 (.mov (T 6)), o 21 (.bin .add (T 20) (I 1)), o 6 (.mov (T 21))])])))]),
    (.reg [o 36 (.mov (T 0)), o 37 (.mov (T 5)), o 38 (.slice 1 (T 36) (some (T 37)) none), on_ (.clear 1 [(.int .i64 0)] (T 38))]),
    (.reg [o 39 (.mov (T 0)), o 40 (.mov (T 5)), o 41 (.slice 1 (T 39) none (some (T 40))), o 4 (.mov (T 41))]),
    .ret])
theorem ok43 : cfn Tryz.prog Tryz.f43 2 = some (s43, [.tmp 4]) := by kernel_rfl

/-! 44 impl.MayWrite -/
def s44 : SCode :=
  (sqs [
    (.reg [o 2 (.mov N)]),
    (sqs [
      (.reg [o 3 (.mov (T 0)), o 4 (.call 36 [(T 3)]), o 5 (.not (T 4))]),
      (.cond (T 5)
        (sqs [
          (.reg [o 2 (.mov N)]),
          .ret])
        .skip)]),
    (.reg [o 6 (.mov (T 0)), o 7 (.call 71 [(T 6), (.val (.fn 74 []))]), o 2 (.mov (T 7))]),
    .ret])
theorem ok44 : cfn Tryz.prog Tryz.f44 1 = some (s44, [.tmp 2]) := by kernel_rfl

/-! 45 impl.MustLog$1 -/
def s45 : SCode :=
  (sqs [
    (.reg [o 4 (.mov (B false))]),
    (.reg [o 5 (.load false 1 (T 1)), o 6 (.mov (T 0)), o 7 (.call 46 [(T 5), (T 6)]), o 8 (.not (T 7)), o 9 (.mov (T 8)), og 10 (.load false 1 (T 2)) 9 true, og 11 (.mov (T 0)) 9 true, og 12 (.call 46 [(T 10), (T 11)]) 9 true, o 13 (.pick (T 9) (T 12) (B false)), o 4 (.mov (T 13))]),
    .ret])
theorem ok45 : cfn Tryz.prog Tryz.f45 3 = some (s45, [.tmp 4]) := by kernel_rfl

/-! 46 impl.HasVar -/
def s46 : SCode :=
  (sqs [
    (.reg [o 4 (.mov (B false))]),
    (.reg [o 5 (.mov (T 0)), o 6 (.mov (T 1)), o 7 (.call 75 [(T 5), (T 6)]), o 4 (.mov (T 7))]),
    .ret])
theorem ok46 : cfn Tryz.prog Tryz.f46 2 = some (s46, [.tmp 4]) := by kernel_rfl

/-! 47 impl.ProgramOk$1 -/
def s47 : SCode :=
  (sqs [
    (.reg [o 1 (.box 4 (T 0)), o 2 (.mov (B false))]),
    (.reg [o 3 (.load true 4 (T 1)), o 4 (.call 19 [(T 3)]), o 5 (.not (T 4)), o 2 (.mov (T 5))]),
    .ret])
theorem ok47 : cfn Tryz.prog Tryz.f47 1 = some (s47, [.tmp 2]) := by kernel_rfl

/-! 49 slices.Compact[[]int,int] -/
def s49 : SCode :=
  (sqs [
    (.reg [o 2 (.mov N)]),
    (sqs [
      (.reg [o 6 (.mov (T 0)), o 7 (.len (T 6)), o 8 (.bin .lss (T 7) (I 2))]),
      (.cond (T 8)
        (sqs [
          (.reg [o 9 (.mov (T 0)), o 2 (.mov (T 9))]),
          .ret])
        .skip)]),
    (sqs [
      (.reg [o 3 (.mov (I 1))]),
      (.block 0
        (.loop
          (sqs [
            (sqs [
              (.reg [o 10 (.mov (T 3)), o 11 (.mov (T 0)), o 12 (.len (T 11)), o 13 (.bin .lss (T 10) (T 12))]),
              (.cond (T 13)
                .skip
                (.exit 0))]),
            (.block 1
              (sqs [
                (.regD [o 16 (.mov (T 0)), o 17 (.mov (T 3)), o 18 (.idxAddr 1 (T 16) (T 17)), ⟨some 19, (.load false 1 (T 18)), none, 3, []⟩, o 20 (.mov (T 0)), o 21 (.mov (T 3)), o 22 (.bin .sub (T 21) (I 1)), o 23 (.idxAddr 1 (T 20) (T 22)), ⟨some 24, (.load false 1 (T 23)), none, 8, []⟩, o 25 (.bin .eql (T 19) (T 24))]),
                (.cond (T 25)
                  (sqs [
                    (.reg [o 26 (.mov (T 0)), o 27 (.mov (T 3)), o 28 (.slice 1 (T 26) (some (T 27)) none), o 4 (.mov (T 28))]),
                    (sqs [
                      (.reg [o 5 (.mov (I 1))]),
                      (.block 2
                        (.loop
                          (sqs [
                            (sqs [
                              (.reg [o 29 (.mov (T 5)), o 30 (.mov (T 4)), o 31 (.len (T 30)), o 32 (.bin .lss (T 29) (T 31))]),
                              (.cond (T 32)
                                .skip
                                (.exit 2))]),
                            (.block 3
                              (sqs [
                                (.regD [o 35 (.mov (T 4)), o 36 (.mov (T 5)), o 37 (.idxAddr 1 (T 35) (T 36)), ⟨some 38, (.load false 1 (T 37)), none, 3, []⟩, o 39 (.mov (T 4)), o 40 (.mov (T 5)), o 41 (.bin .sub (T 40) (I 1)), o 42 (.idxAddr 1 (T 39) (T 41)), ⟨some 43, (.load false 1 (T 42)), none, 8, []⟩, o 44 (.bin .neq (T 38) (T 43))]),
                                (.cond (T 44)
                                  (sqs [
                                    (.reg [o 45 (.mov (T 0)), o 46 (.mov (T 3)), o 47 (.mov (T 4)), o 48 (.mov (T 5)), o 49 (.idxAddr 1 (T 47) (T 48)), o 50 (.load false 1 (T 49)), o 51 (.idxAddr 1 (T 45) (T 46)), on_ (.store 1 (T 51) (T 50))]),
                                    (.reg [o 52 (.mov (T 3)), o 53 (.bin .add (T 52) (I 1)), o 3 (.mov (T 53))])])
                                  .skip)])),
                            (.reg [o 33 (.mov (T 5)), o 34 (.bin .add (T 33) (I 1)), o 5 (.mov (T 34))])])))]),
                    (.reg [o 54 (.mov (T 0)), o 55 (.mov (T 3)), o 56 (.slice 1 (T 54) (some (T 55)) none), on_ (.clear 1 [(.int .i64 0)] (T 56))]),
                    (.reg [o 57 (.mov (T 0)), o 58 (.mov (T 3)), o 59 (.slice 1 (T 57) none (some (T 58))), o 2 (.mov (T 59))]),
                    .ret])
                  .skip)])),
            (.reg [o 14 (.mov (T 3)), o 15 (.bin .add (T 14) (I 1)), o 3 (.mov (T 15))])])))]),
    (.reg [o 60 (.mov (T 0)), o 2 (.mov (T 60))]),
    .ret])
theorem ok49 : cfn Tryz.prog Tryz.f49 1 = some (s49, [.tmp 2]) := by kernel_rfl

/-! 50 impl.VarsOk -/
def s50 : SCode :=
  (sqs [
    (.reg [o 2 (.mov (B false))]),
    (.reg [o 3 (.mov (T 0)), o 4 (.len (T 3)), o 5 (.bin .eql (T 4) (I 8)), o 6 (.mov (T 5)), og 7 (.mov (T 0)) 6 true, og 8 (.call 78 [(T 7)]) 6 true, o 9 (.pick (T 6) (T 8) (B false)), o 2 (.mov (T 9))]),
    .ret])
theorem ok50 : cfn Tryz.prog Tryz.f50 1 = some (s50, [.tmp 2]) := by kernel_rfl

/-! 51 impl.operand -/
def s51 : SCode :=
  (sqs [
    (.reg [o 4 (.mov (I 0))]),
    (sqs [
      (.reg [o 5 (.mov (T 1)), o 6 (.bin .lss (T 5) (I 0))]),
      (.cond (T 6)
        (sqs [
          (.reg [o 7 (.mov (T 0)), o 8 (.mov (T 1)), o 9 (.bin .sub (I (-1)) (T 8)), o 10 (.idxAddr 1 (T 7) (T 9)), o 11 (.load false 1 (T 10)), o 4 (.mov (T 11))]),
          .ret])
        .skip)]),
    (.reg [o 12 (.mov (T 1)), o 4 (.mov (T 12))]),
    .ret])
theorem ok51 : cfn Tryz.prog Tryz.f51 2 = some (s51, [.tmp 4]) := by kernel_rfl

/-! 52 impl.AddValues -/
def s52 : SCode :=
  (sqs [
    (.reg [o 4 (.mov (I 0))]),
    (.reg [o 5 (.mov (T 0)), o 6 (.call 79 [(T 5)]), o 7 (.mov (T 1)), o 8 (.call 79 [(T 7)]), o 9 (.bin .add (T 6) (T 8)), o 10 (.call 79 [(T 9)]), o 4 (.mov (T 10))]),
    .ret])
theorem ok52 : cfn Tryz.prog Tryz.f52 2 = some (s52, [.tmp 4]) := by kernel_rfl

/-! 53 impl.SubValues -/
def s53 : SCode :=
  (sqs [
    (.reg [o 4 (.mov (I 0))]),
    (.reg [o 5 (.mov (T 0)), o 6 (.call 79 [(T 5)]), o 7 (.mov (T 1)), o 8 (.call 79 [(T 7)]), o 9 (.bin .sub (T 6) (T 8)), o 10 (.call 79 [(T 9)]), o 4 (.mov (T 10))]),
    .ret])
theorem ok53 : cfn Tryz.prog Tryz.f53 2 = some (s53, [.tmp 4]) := by kernel_rfl

/-! 54 impl.MulValues -/
def s54 : SCode :=
  (sqs [
    (.reg [o 4 (.mov (I 0))]),
    (.reg [o 5 (.mov (T 0)), o 6 (.call 79 [(T 5)]), o 7 (.mov (T 1)), o 8 (.call 79 [(T 7)]), o 9 (.bin .mul (T 6) (T 8)), o 10 (.call 79 [(T 9)]), o 4 (.mov (T 10))]),
    .ret])
theorem ok54 : cfn Tryz.prog Tryz.f54 2 = some (s54, [.tmp 4]) := by kernel_rfl

/-! 55 impl.bit -/
def s55 : SCode :=
  (sqs [
    (.reg [o 2 (.mov (I 0))]),
    (sqs [
      (.reg [o 3 (.mov (T 0))]),
      (.cond (T 3)
        (sqs [
          (.reg [o 2 (.mov (I 1))]),
          .ret])
        .skip)]),
    (.reg [o 2 (.mov (I 0))]),
    .ret])
theorem ok55 : cfn Tryz.prog Tryz.f55 1 = some (s55, [.tmp 2]) := by kernel_rfl

/-! 57 impl.spaced -/
def s57 : SCode :=
  (sqs [
    (.reg [o 4 (.mov (.val (.str (bz []))))]),
    (.reg [o 8 (.mov (T 0)), o 5 (.mov (T 8))]),
    (sqs [
      (.reg [o 9 (.mov (T 1)), o 10 (.len (T 9)), o 11 (.mov (I 0))]),
      (.block 0
        (.loop
          (sqs [
            (.reg [o 12 (.bin .lss (T 11) (T 10))]),
            (.cond (T 12)
              .skip
              (.exit 0)),
            (.block 1
              (sqs [
                (.reg [o 13 (.idxAddr 1 (T 9) (T 11)), o 14 (.load false 1 (T 13)), o 7 (.mov (T 14))]),
                (.reg [o 15 (.mov (T 5)), o 16 (.mov (T 7)), o 17 (.call 81 [(T 16)]), o 18 (.bin .add (.val (.str (bz [32]))) (T 17)), o 19 (.bin .add (T 15) (T 18)), o 5 (.mov (T 19))])])),
            (.reg [o 20 (.bin .add (T 11) (I 1)), o 11 (.mov (T 20))])])))]),
    (.reg [o 21 (.mov (T 5)), o 4 (.mov (T 21))]),
    .ret])
theorem ok57 : cfn Tryz.prog Tryz.f57 2 = some (s57, [.tmp 4]) := by kernel_rfl

/-! 58 impl.StmtOk -/
def s58 : SCode :=
  (sqs [
    (.reg [o 1 (.box 6 (T 0)), o 2 (.mov (B false))]),
    (sqs [
      (.reg [o 3 (.fieldAddr 0 (T 1)), o 4 (.load false 1 (T 3)), o 5 (.call 27 [(T 4), (I 1), (I 6)]), o 6 (.not (T 5)), o 7 (.mov (T 6)), og 8 (.fieldAddr 0 (T 1)) 7 false, og 9 (.load false 1 (T 8)) 7 false, og 10 (.call 59 [(T 9)]) 7 false, og 11 (.mov (T 10)) 7 false, og 12 (.fieldAddr 1 (T 1)) 11 true, og 13 (.load false 1 (T 12)) 11 true, og 14 (.call 82 [(T 13)]) 11 true, og 15 (.not (T 14)) 11 true, og 16 (.pick (T 11) (T 15) (B false)) 7 false, o 17 (.pick (T 7) (B true) (T 16)), o 18 (.mov (T 17)), og 19 (.fieldAddr 0 (T 1)) 18 false, og 20 (.load false 1 (T 19)) 18 false, og 21 (.call 59 [(T 20)]) 18 false, og 22 (.not (T 21)) 18 false, og 23 (.mov (T 22)) 18 false, og 24 (.fieldAddr 1 (T 1)) 23 true, og 25 (.load false 1 (T 24)) 23 true, og 26 (.bin .neq (T 25) (I 0)) 23 true, og 27 (.pick (T 23) (T 26) (B false)) 18 false, o 28 (.pick (T 18) (B true) (T 27))]),
      (.cond (T 28)
        (sqs [
          (.reg [o 2 (.mov (B false))]),
          .ret])
        .skip)]),
    (sqs [
      (.reg [o 29 (.fieldAddr 0 (T 1)), o 30 (.load false 1 (T 29)), o 31 (.call 61 [(T 30)]), o 32 (.mov (T 31)), og 33 (.fieldAddr 3 (T 1)) 32 true, og 34 (.load true 3 (T 33)) 32 true, og 35 (.call 39 [(T 34)]) 32 true, og 36 (.not (T 35)) 32 true, o 37 (.pick (T 32) (T 36) (B false)), o 38 (.mov (T 37)), og 39 (.fieldAddr 0 (T 1)) 38 false, og 40 (.load false 1 (T 39)) 38 false, og 41 (.call 61 [(T 40)]) 38 false, og 42 (.not (T 41)) 38 false, og 43 (.mov (T 42)) 38 false, og 44 (.fieldAddr 3 (T 1)) 43 true, og 45 (.load true 3 (T 44)) 43 true, og 46 (.build [(.int .i64 0), (.int .i64 0), (.int .i64 0)] []) 43 true, og 47 (.eqs 35 true (T 45) (T 46)) 43 true, og 48 (.pick (T 43) (T 47) (B false)) 38 false, o 49 (.pick (T 38) (B true) (T 48))]),
      (.cond (T 49)
        (sqs [
          (.reg [o 2 (.mov (B false))]),
          .ret])
        .skip)]),
    (sqs [
      (.reg [o 50 (.fieldAddr 0 (T 1)), o 51 (.load false 1 (T 50))]),
      (.block 0
        (sqs [
          (.reg [o 53 (.bin .eql (T 51) (I 2)), o 52 (.mov (T 53))]),
          (.cond (T 52)
            (sqs [
              (.reg [o 54 (.fieldAddr 2 (T 1)), o 55 (.load false 1 (T 54)), o 56 (.call 83 [(T 55)]), o 2 (.mov (T 56))]),
              .ret])
            (sqs [
              (.reg [o 58 (.bin .eql (T 51) (I 5)), o 57 (.mov (T 58))]),
              (.cond (T 57)
                (sqs [
                  (.reg [o 59 (.fieldAddr 2 (T 1)), o 60 (.load false 1 (T 59)), o 61 (.call 27 [(T 60), (I 1), (I 5)]), o 2 (.mov (T 61))]),
                  .ret])
                .skip)]))]))]),
    (.reg [o 62 (.fieldAddr 2 (T 1)), o 63 (.load false 1 (T 62)), o 64 (.bin .eql (T 63) (I 0)), o 2 (.mov (T 64))]),
    .ret])
theorem ok58 : cfn Tryz.prog Tryz.f58 1 = some (s58, [.tmp 2]) := by kernel_rfl

/-! 59 impl.hasVar -/
def s59 : SCode :=
  (sqs [
    (.reg [o 2 (.mov (B false))]),
    (.reg [o 3 (.mov (T 0)), o 4 (.bin .eql (T 3) (I 1)), o 5 (.mov (T 4)), og 6 (.mov (T 0)) 5 false, og 7 (.bin .eql (T 6) (I 2)) 5 false, o 8 (.pick (T 5) (B true) (T 7)), o 2 (.mov (T 8))]),
    .ret])
theorem ok59 : cfn Tryz.prog Tryz.f59 1 = some (s59, [.tmp 2]) := by kernel_rfl

/-! 60 impl.hasN -/
def s60 : SCode :=
  (sqs [
    (.reg [o 2 (.mov (B false))]),
    (.reg [o 3 (.mov (T 0)), o 4 (.bin .eql (T 3) (I 2)), o 5 (.mov (T 4)), og 6 (.mov (T 0)) 5 false, og 7 (.bin .eql (T 6) (I 5)) 5 false, o 8 (.pick (T 5) (B true) (T 7)), o 2 (.mov (T 8))]),
    .ret])
theorem ok60 : cfn Tryz.prog Tryz.f60 1 = some (s60, [.tmp 2]) := by kernel_rfl

/-! 61 impl.hasExpr -/
def s61 : SCode :=
  (sqs [
    (.reg [o 2 (.mov (B false))]),
    (.reg [o 3 (.mov (T 0)), o 4 (.bin .eql (T 3) (I 1)), o 5 (.mov (T 4)), og 6 (.mov (T 0)) 5 false, og 7 (.bin .eql (T 6) (I 3)) 5 false, o 8 (.pick (T 5) (B true) (T 7)), o 9 (.mov (T 8)), og 10 (.mov (T 0)) 9 false, og 11 (.bin .eql (T 10) (I 4)) 9 false, o 12 (.pick (T 9) (B true) (T 11)), o 2 (.mov (T 12))]),
    .ret])
theorem ok61 : cfn Tryz.prog Tryz.f61 1 = some (s61, [.tmp 2]) := by kernel_rfl

/-! 62 impl.stmtNames -/
def s62 : SCode :=
  (sqs [
    (.reg [o 0 (.mov N)]),
    (.reg [o 1 (.lit 7 1 [(.str (bz []))] [(0, (.val (.str (bz [])))), (1, (.val (.str (bz [115, 101, 116])))), (2, (.val (.str (bz [115, 101, 110, 115, 101])))), (3, (.val (.str (bz [115, 101, 110, 100])))), (4, (.val (.str (bz [105, 102])))), (5, (.val (.str (bz [108, 111, 111, 112])))), (6, (.val (.str (bz [101, 110, 100]))))]), o 0 (.mov (T 1))]),
    .ret])
theorem ok62 : cfn Tryz.prog Tryz.f62 0 = some (s62, [.tmp 0]) := by kernel_rfl

/-! 63 spec.l05Case -/
def s63 : SCode :=
  (sqs [
    (.reg [o 2 (.mov N)]),
    (.reg [o 3 (.mov (T 0)), o 4 (.mov (T 0)), o 5 (.call 13 [(T 4), (I 6)]), o 6 (.call 84 [(T 3), (T 5), (I 0)]), o 2 (.mov (T 6))]),
    .ret])
theorem ok63 : cfn Tryz.prog Tryz.f63 1 = some (s63, [.tmp 2]) := by kernel_rfl

/-! 64 spec.l03Expr -/
def s64 : SCode :=
  (sqs [
    (.reg [o 2 (.zero [(.int .i64 0), (.int .i64 0), (.int .i64 0)])]),
    (.reg [o 3 (.mov (T 0)), o 4 (.call 13 [(T 3), (I 7)]), o 5 (.bin .add (I 1) (T 4)), o 6 (.mov (T 0)), o 7 (.call 85 [(T 6)]), o 8 (.mov (T 0)), o 9 (.call 85 [(T 8)]), o 10 (.build [(.int .i64 0), (.int .i64 0), (.int .i64 0)] [(0, 1, (T 5)), (1, 1, (T 7)), (2, 1, (T 9))]), on_ (.store 3 (T 2) (T 10))]),
    .ret])
theorem ok64 : cfn Tryz.prog Tryz.f64 1 = some (s64, [.cell 2 true 3]) := by kernel_rfl

/-! 65 impl.isOpening -/
def s65 : SCode :=
  (sqs [
    (.reg [o 2 (.mov (B false))]),
    (.reg [o 3 (.mov (T 0)), o 4 (.bin .eql (T 3) (I 4)), o 5 (.mov (T 4)), og 6 (.mov (T 0)) 5 false, og 7 (.bin .eql (T 6) (I 5)) 5 false, o 8 (.pick (T 5) (B true) (T 7)), o 2 (.mov (T 8))]),
    .ret])
theorem ok65 : cfn Tryz.prog Tryz.f65 1 = some (s65, [.tmp 2]) := by kernel_rfl

/-! 66 impl.OperandOk -/
def s66 : SCode :=
  (sqs [
    (.reg [o 2 (.mov (B false))]),
    (.reg [o 3 (.mov (T 0)), o 4 (.call 27 [(T 3), (I (-8)), (I 999)]), o 2 (.mov (T 4))]),
    .ret])
theorem ok66 : cfn Tryz.prog Tryz.f66 1 = some (s66, [.tmp 2]) := by kernel_rfl

/-! 67 impl.StmtCost -/
def s67 : SCode :=
  (sqs [
    (.reg [o 1 (.box 6 (T 0)), o 2 (.mov (I 0))]),
    (sqs [
      (.reg [o 3 (.load true 6 (T 1)), o 4 (.call 58 [(T 3)]), o 5 (.not (T 4))]),
      (.cond (T 5)
        (sqs [
          (.reg [o 2 (.mov (I 0))]),
          .ret])
        .skip)]),
    (.reg [o 6 (.lit 7 1 [(.int .i64 0)] [(0, (I 0)), (1, (I 2)), (2, (I 5)), (3, (I 4)), (4, (I 1)), (5, (I 1)), (6, (I 0))]), o 7 (.fieldAddr 0 (T 1)), o 8 (.load false 1 (T 7)), o 9 (.idxAddr 1 (T 6) (T 8)), o 10 (.load false 1 (T 9)), o 2 (.mov (T 10))]),
    .ret])
theorem ok67 : cfn Tryz.prog Tryz.f67 1 = some (s67, [.tmp 2]) := by kernel_rfl

/-! 68 impl.endOf -/
def s68 : SCode :=
  (sqs [
    (.reg [o 4 (.mov (I 0))]),
    (.reg [o 5 (.mov (I 0))]),
    (sqs [
      (.reg [o 7 (.mov (T 1)), o 6 (.mov (T 7))]),
      (.block 0
        (.loop
          (sqs [
            (sqs [
              (.reg [o 8 (.mov (T 6)), o 9 (.mov (T 0)), o 10 (.len (T 9)), o 11 (.bin .lss (T 8) (T 10))]),
              (.cond (T 11)
                .skip
                (.exit 0))]),
            (.block 1
              (sqs [
                (sqs [
                  (.reg [o 14 (.mov (T 0)), o 15 (.mov (T 6)), o 16 (.idxAddr 6 (T 14) (T 15)), o 17 (.fieldAddr 0 (T 16)), o 18 (.load false 1 (T 17)), o 19 (.call 65 [(T 18)])]),
                  (.cond (T 19)
                    (.reg [o 20 (.mov (T 5)), o 21 (.bin .add (T 20) (I 1)), o 5 (.mov (T 21))])
                    .skip)]),
                (sqs [
                  (.reg [o 22 (.mov (T 0)), o 23 (.mov (T 6)), o 24 (.idxAddr 6 (T 22) (T 23)), o 25 (.fieldAddr 0 (T 24)), o 26 (.load false 1 (T 25)), o 27 (.bin .eql (T 26) (I 6))]),
                  (.cond (T 27)
                    (.reg [o 28 (.mov (T 5)), o 29 (.bin .sub (T 28) (I 1)), o 5 (.mov (T 29))])
                    .skip)]),
                (.reg [o 30 (.mov (T 5)), o 31 (.bin .eql (T 30) (I 0))]),
                (.cond (T 31)
                  (sqs [
                    (.reg [o 32 (.mov (T 6)), o 4 (.mov (T 32))]),
                    .ret])
                  .skip)])),
            (.reg [o 12 (.mov (T 6)), o 13 (.bin .add (T 12) (I 1)), o 6 (.mov (T 13))])])))]),
    (.reg [o 4 (.mov (I (-1)))]),
    .ret])
theorem ok68 : cfn Tryz.prog Tryz.f68 2 = some (s68, [.tmp 4]) := by kernel_rfl

/-! 69 (*impl.reader).pass -/
def s69 : SCode :=
  (sqs [
    (.reg [o 4 (.mov (I 0))]),
    (.block 0
      (.loop
        (sqs [
          (sqs [
            (.reg [o 8 (.mov (T 4)), o 9 (.mov (T 1)), o 10 (.len (T 9)), o 11 (.bin .lss (T 8) (T 10))]),
            (.cond (T 11)
              .skip
              (.exit 0))]),
          (.block 1
            (sqs [
              (.reg [o 14 (.mov (T 1)), o 15 (.mov (T 4)), o 16 (.idxAddr 6 (T 14) (T 15)), o 17 (.load true 6 (T 16)), o 5 (.hole 6), o 5 (.birth 6 (T 5) (T 17))]),
              (sqs [
                (.reg [o 18 (.fieldAddr 0 (T 5)), o 19 (.load false 1 (T 18)), o 20 (.call 61 [(T 19)])]),
                (.cond (T 20)
                  (.reg [o 21 (.mov (T 0)), o 22 (.fieldAddr 3 (T 5)), o 23 (.load true 3 (T 22)), o 24 (.call 70 [(T 21), (T 23)])])
                  .skip)]),
              (sqs [
                (.reg [o 25 (.fieldAddr 0 (T 5)), o 26 (.load false 1 (T 25)), o 27 (.call 59 [(T 26)])]),
                (.cond (T 27)
                  (.regD [o 28 (.mov (T 0)), o 29 (.fieldAddr 1 (T 5)), ⟨some 30, (.load false 1 (T 29)), none, 2, []⟩, o 31 (.nilchk (T 28)), o 32 (.fieldAddr 0 (T 31)), o 33 (.arrAddr 8 1 (T 32) (T 30)), on_ (.store 1 (T 33) (B true))])
                  .skip)]),
              (.reg [o 34 (.fieldAddr 0 (T 5)), o 35 (.load false 1 (T 34)), o 36 (.bin .eql (T 35) (I 4))]),
              (.cond (T 36)
                (sqs [
                  (.reg [o 37 (.mov (T 1)), o 38 (.mov (T 4)), o 39 (.call 68 [(T 37), (T 38)]), o 6 (.mov (T 39))]),
                  (.reg [o 40 (.mov (T 0)), o 41 (.nilchk (T 40)), o 42 (.fieldAddr 0 (T 41)), o 43 (.load true 8 (T 42)), o 7 (.hole 8), o 7 (.birth 8 (T 7) (T 43))]),
                  (.reg [o 44 (.mov (T 0)), o 45 (.mov (T 1)), o 46 (.mov (T 4)), o 47 (.bin .add (T 46) (I 1)), o 48 (.mov (T 6)), o 49 (.slice 6 (T 45) (some (T 47)) (some (T 48))), o 50 (.call 69 [(T 44), (T 49)])]),
                  (.reg [o 51 (.mov (T 0)), o 52 (.load true 8 (T 7)), o 53 (.nilchk (T 51)), o 54 (.fieldAddr 0 (T 53)), on_ (.store 8 (T 54) (T 52))]),
                  (.reg [o 55 (.mov (T 6)), o 4 (.mov (T 55))])])
                .skip)])),
          (.reg [o 12 (.mov (T 4)), o 13 (.bin .add (T 12) (I 1)), o 4 (.mov (T 13))])])))])
theorem ok69 : cfn Tryz.prog Tryz.f69 2 = some (s69, []) := by kernel_rfl

/-! 70 (*impl.reader).read -/
def s70 : SCode :=
  (sqs [
    (.reg [o 3 (.box 3 (T 1))]),
    (.reg [o 6 (.load true 3 (T 3)), o 7 (.call 26 [(T 6)]), o 8 (.len (T 7)), o 9 (.mov (I 0))]),
    (.block 0
      (.loop
        (sqs [
          (.reg [o 10 (.bin .lss (T 9) (T 8))]),
          (.cond (T 10)
            .skip
            (.exit 0)),
          (.block 1
            (sqs [
              (.reg [o 11 (.idxAddr 1 (T 7) (T 9)), o 12 (.load false 1 (T 11)), o 5 (.mov (T 12))]),
              (.reg [o 13 (.mov (T 0)), o 14 (.mov (T 5)), o 15 (.nilchk (T 13)), o 16 (.fieldAddr 0 (T 15)), o 17 (.arrAddr 8 1 (T 16) (T 14)), o 18 (.load false 1 (T 17)), o 19 (.not (T 18))]),
              (.cond (T 19)
                (.reg [o 20 (.mov (T 0)), o 21 (.mov (T 5)), o 22 (.nilchk (T 20)), o 23 (.fieldAddr 8 (T 22)), o 24 (.arrAddr 8 1 (T 23) (T 21)), on_ (.store 1 (T 24) (B true))])
                .skip)])),
          (.reg [o 25 (.bin .add (T 9) (I 1)), o 9 (.mov (T 25))])])))])
theorem ok70 : cfn Tryz.prog Tryz.f70 2 = some (s70, []) := by kernel_rfl

/-! 71 impl.written -/
def s71 : SCode :=
  (sqs [
    (.reg [o 4 (.mov N)]),
    (.reg [o 8 (.lit 0 1 [(.int .i64 0)] []), o 5 (.mov (T 8))]),
    (sqs [
      (.reg [o 9 (.mov (T 0)), o 10 (.len (T 9)), o 11 (.mov (I 0))]),
      (.block 0
        (.loop
          (sqs [
            (.reg [o 12 (.bin .lss (T 11) (T 10))]),
            (.cond (T 12)
              .skip
              (.exit 0)),
            (.block 1
              (sqs [
                (.reg [o 13 (.mov (T 11)), o 14 (.idxAddr 6 (T 9) (T 11)), o 15 (.load true 6 (T 14)), o 7 (.hole 6), o 6 (.mov (T 13)), o 7 (.birth 6 (T 7) (T 15))]),
                (.reg [o 16 (.fieldAddr 0 (T 7)), o 17 (.load false 1 (T 16)), o 18 (.call 59 [(T 17)]), o 19 (.mov (T 18)), og 20 (.mov (T 1)) 19 true, og 21 (.mov (T 6)) 19 true, og 22 (.callv (T 20) [(T 21)]) 19 true, o 23 (.pick (T 19) (T 22) (B false))]),
                (.cond (T 23)
                  (.reg [o 24 (.mov (T 5)), o 25 (.fieldAddr 1 (T 7)), o 26 (.load false 1 (T 25)), o 27 (.lit 1 1 [(.int .i64 0)] [(0, (T 26))]), o 28 (.append 1 8 (T 24) (T 27)), o 5 (.mov (T 28))])
                  .skip)])),
            (.reg [o 29 (.bin .add (T 11) (I 1)), o 11 (.mov (T 29))])])))]),
    (.reg [o 30 (.mov (T 5)), o 31 (.call 48 [(T 30)])]),
    (.reg [o 32 (.mov (T 5)), o 33 (.call 49 [(T 32)]), o 4 (.mov (T 33))]),
    .ret])
theorem ok71 : cfn Tryz.prog Tryz.f71 2 = some (s71, [.tmp 4]) := by kernel_rfl

/-! 72 impl.MustWrite$1 -/
def s72 : SCode :=
  (sqs [
    (.reg [o 3 (.mov (B false))]),
    (.reg [o 4 (.load false 1 (T 1)), o 5 (.mov (T 0)), o 6 (.idxAddr 1 (T 4) (T 5)), o 7 (.load false 1 (T 6)), o 8 (.not (T 7)), o 3 (.mov (T 8))]),
    .ret])
theorem ok72 : cfn Tryz.prog Tryz.f72 2 = some (s72, [.tmp 3]) := by kernel_rfl

/-! 73 slices.IndexFunc[[]int,int] -/
def s73 : SCode :=
  (sqs [
    (.reg [o 4 (.mov (I 0))]),
    (sqs [
      (.reg [o 6 (.mov (T 0)), o 7 (.len (T 6)), o 8 (.mov (I 0))]),
      (.block 0
        (.loop
          (sqs [
            (.reg [o 9 (.bin .lss (T 8) (T 7))]),
            (.cond (T 9)
              .skip
              (.exit 0)),
            (.block 1
              (sqs [
                (.reg [o 10 (.mov (T 8)), o 5 (.mov (T 10))]),
                (.reg [o 11 (.mov (T 1)), o 12 (.mov (T 0)), o 13 (.mov (T 5)), o 14 (.idxAddr 1 (T 12) (T 13)), o 15 (.load false 1 (T 14)), o 16 (.callv (T 11) [(T 15)])]),
                (.cond (T 16)
                  (sqs [
                    (.reg [o 17 (.mov (T 5)), o 4 (.mov (T 17))]),
                    .ret])
                  .skip)])),
            (.reg [o 18 (.bin .add (T 8) (I 1)), o 8 (.mov (T 18))])])))]),
    (.reg [o 4 (.mov (I (-1)))]),
    .ret])
theorem ok73 : cfn Tryz.prog Tryz.f73 2 = some (s73, [.tmp 4]) := by kernel_rfl

/-! 74 impl.MayWrite$1 -/
def s74 : SCode :=
  (sqs [
    (.reg [o 2 (.mov (B false))]),
    (.reg [o 2 (.mov (B true))]),
    .ret])
theorem ok74 : cfn Tryz.prog Tryz.f74 1 = some (s74, [.tmp 2]) := by kernel_rfl

/-! 75 slices.Contains[[]int,int] -/
def s75 : SCode :=
  (sqs [
    (.reg [o 4 (.mov (B false))]),
    (.reg [o 5 (.mov (T 0)), o 6 (.mov (T 1)), o 7 (.call 86 [(T 5), (T 6)]), o 8 (.bin .geq (T 7) (I 0)), o 4 (.mov (T 8))]),
    .ret])
theorem ok75 : cfn Tryz.prog Tryz.f75 2 = some (s75, [.tmp 4]) := by kernel_rfl

/-! 78 impl.areValues -/
def s78 : SCode :=
  (sqs [
    (.reg [o 2 (.mov (B false))]),
    (.reg [o 3 (.mov (T 0)), o 4 (.call 98 [(T 3), (.val (.fn 99 []))]), o 5 (.not (T 4)), o 2 (.mov (T 5))]),
    .ret])
theorem ok78 : cfn Tryz.prog Tryz.f78 1 = some (s78, [.tmp 2]) := by kernel_rfl

/-! 79 impl.Saturate -/
def s79 : SCode :=
  (sqs [
    (.reg [o 2 (.mov (I 0))]),
    (.reg [o 3 (.mov (T 0)), o 4 (.call 101 [(T 3), (I (-1000000)), (I 1000000)]), o 2 (.mov (T 4))]),
    .ret])
theorem ok79 : cfn Tryz.prog Tryz.f79 1 = some (s79, [.tmp 2]) := by kernel_rfl

/-! 81 impl.FormatInt -/
def s81 : SCode :=
  (sqs [
    (.reg [o 2 (.mov (.val (.str (bz []))))]),
    (.reg [o 3 (.mov (T 0)), o 4 (.call 102 [(T 3)]), o 2 (.mov (T 4))]),
    .ret])
theorem ok81 : cfn Tryz.prog Tryz.f81 1 = some (s81, [.tmp 2]) := by kernel_rfl

/-! 82 impl.isVar -/
def s82 : SCode :=
  (sqs [
    (.reg [o 2 (.mov (B false))]),
    (.reg [o 3 (.mov (T 0)), o 4 (.call 27 [(T 3), (I 0), (I 7)]), o 2 (.mov (T 4))]),
    .ret])
theorem ok82 : cfn Tryz.prog Tryz.f82 1 = some (s82, [.tmp 2]) := by kernel_rfl

/-! 83 impl.isSensor -/
def s83 : SCode :=
  (sqs [
    (.reg [o 2 (.mov (B false))]),
    (.reg [o 3 (.mov (T 0)), o 4 (.call 27 [(T 3), (I 0), (I 3)]), o 2 (.mov (T 4))]),
    .ret])
theorem ok83 : cfn Tryz.prog Tryz.f83 1 = some (s83, [.tmp 2]) := by kernel_rfl

/-! 84 spec.l05Block -/
def s84 : SCode :=
  (sqs [
    (.reg [o 6 (.mov N)]),
    (.reg [o 10 (.lit 0 6 [(.int .i64 0), (.int .i64 0), (.int .i64 0), (.int .i64 0), (.int .i64 0), (.int .i64 0)] []), o 7 (.mov (T 10))]),
    (sqs [
      (.reg [o 8 (.mov (I 0))]),
      (.block 0
        (.loop
          (sqs [
            (sqs [
              (.reg [o 11 (.mov (T 8)), o 12 (.mov (T 1)), o 13 (.bin .lss (T 11) (T 12))]),
              (.cond (T 13)
                .skip
                (.exit 0))]),
            (.block 1
              (sqs [
                (sqs [
                  (.reg [o 16 (.mov (T 2)), o 17 (.bin .lss (T 16) (I 2)), o 18 (.mov (T 17)), og 19 (.mov (T 7)) 18 true, og 20 (.len (T 19)) 18 true, og 21 (.bin .lss (T 20) (I 6)) 18 true, o 22 (.pick (T 18) (T 21) (B false)), o 23 (.mov (T 22)), og 24 (.mov (T 0)) 23 true, og 25 (.call 103 [(T 24), (I 5)]) 23 true, o 26 (.pick (T 23) (T 25) (B false))]),
                  (.cond (T 26)
                    (sqs [
                      (.reg [o 27 (.mov (T 0)), o 28 (.call 13 [(T 27), (I 3)]), o 29 (.bin .add (I 1) (T 28)), o 30 (.build [(.int .i64 0), (.int .i64 0), (.int .i64 0), (.int .i64 0), (.int .i64 0), (.int .i64 0)] [(0, 1, (I 5)), (2, 1, (T 29))]), o 9 (.hole 6), o 9 (.birth 6 (T 9) (T 30))]),
                      (sqs [
                        (.reg [o 31 (.mov (T 0)), o 32 (.call 103 [(T 31), (I 2)])]),
                        (.cond (T 32)
                          (.reg [o 33 (.mov (T 0)), o 34 (.call 64 [(T 33)]), o 35 (.build [(.int .i64 0), (.int .i64 0), (.int .i64 0), (.int .i64 0), (.int .i64 0), (.int .i64 0)] [(0, 1, (I 4)), (3, 3, (T 34))]), on_ (.store 6 (T 9) (T 35))])
                          .skip)]),
                      (.reg [o 36 (.mov (T 7)), o 37 (.load true 6 (T 9)), o 38 (.lit 1 6 [(.int .i64 0), (.int .i64 0), (.int .i64 0), (.int .i64 0), (.int .i64 0), (.int .i64 0)] [(0, (T 37))]), o 39 (.append 6 48 (T 36) (T 38)), o 7 (.mov (T 39))]),
                      (.reg [o 40 (.mov (T 7)), o 41 (.mov (T 0)), o 42 (.mov (T 0)), o 43 (.call 13 [(T 42), (I 2)]), o 44 (.bin .add (I 1) (T 43)), o 45 (.mov (T 2)), o 46 (.bin .add (T 45) (I 1)), o 47 (.call 84 [(T 41), (T 44), (T 46)]), o 48 (.append 6 48 (T 40) (T 47)), o 7 (.mov (T 48))]),
                      (.reg [o 49 (.mov (T 7)), o 50 (.build [(.int .i64 0), (.int .i64 0), (.int .i64 0), (.int .i64 0), (.int .i64 0), (.int .i64 0)] [(0, 1, (I 6))]), o 51 (.lit 1 6 [(.int .i64 0), (.int .i64 0), (.int .i64 0), (.int .i64 0), (.int .i64 0), (.int .i64 0)] [(0, (T 50))]), o 52 (.append 6 48 (T 49) (T 51)), o 7 (.mov (T 52))]),
                      (.exit 1)])
                    .skip)]),
                (.reg [o 53 (.mov (T 7)), o 54 (.mov (T 0)), o 55 (.call 104 [(T 54)]), o 56 (.lit 1 6 [(.int .i64 0), (.int .i64 0), (.int .i64 0), (.int .i64 0), (.int .i64 0), (.int .i64 0)] [(0, (T 55))]), o 57 (.append 6 48 (T 53) (T 56)), o 7 (.mov (T 57))])])),
            (.reg [o 14 (.mov (T 8)), o 15 (.bin .add (T 14) (I 1)), o 8 (.mov (T 15))])])))]),
    (.reg [o 58 (.mov (T 7)), o 6 (.mov (T 58))]),
    .ret])
theorem ok84 : cfn Tryz.prog Tryz.f84 3 = some (s84, [.tmp 6]) := by kernel_rfl

/-! 85 spec.l03Operand -/
def s85 : SCode :=
  (sqs [
    (.reg [o 2 (.mov (I 0))]),
    (sqs [
      (.reg [o 3 (.mov (T 0)), o 4 (.call 103 [(T 3), (I 2)])]),
      (.cond (T 4)
        (sqs [
          (.reg [o 5 (.mov (T 0)), o 6 (.call 13 [(T 5), (I 5)]), o 7 (.bin .sub (I (-1)) (T 6)), o 2 (.mov (T 7))]),
          .ret])
        .skip)]),
    (.reg [o 8 (.mov (T 0)), o 9 (.lit 6 1 [(.int .i64 0)] [(0, (I 0)), (1, (I 1)), (2, (I 2)), (3, (I 3)), (4, (I 10)), (5, (I 999))]), o 10 (.call 105 [(T 8), (T 9)]), o 2 (.mov (T 10))]),
    .ret])
theorem ok85 : cfn Tryz.prog Tryz.f85 1 = some (s85, [.tmp 2]) := by kernel_rfl

/-! 86 slices.Index[[]int,int] -/
def s86 : SCode :=
  (sqs [
    (.reg [o 4 (.mov (I 0))]),
    (sqs [
      (.reg [o 6 (.mov (T 0)), o 7 (.len (T 6)), o 8 (.mov (I 0))]),
      (.block 0
        (.loop
          (sqs [
            (.reg [o 9 (.bin .lss (T 8) (T 7))]),
            (.cond (T 9)
              .skip
              (.exit 0)),
            (.block 1
              (sqs [
                (.reg [o 10 (.mov (T 8)), o 5 (.mov (T 10))]),
                (.reg [o 11 (.mov (T 1)), o 12 (.mov (T 0)), o 13 (.mov (T 5)), o 14 (.idxAddr 1 (T 12) (T 13)), o 15 (.load false 1 (T 14)), o 16 (.bin .eql (T 11) (T 15))]),
                (.cond (T 16)
                  (sqs [
                    (.reg [o 17 (.mov (T 5)), o 4 (.mov (T 17))]),
                    .ret])
                  .skip)])),
            (.reg [o 18 (.bin .add (T 8) (I 1)), o 8 (.mov (T 18))])])))]),
    (.reg [o 4 (.mov (I (-1)))]),
    .ret])
theorem ok86 : cfn Tryz.prog Tryz.f86 2 = some (s86, [.tmp 4]) := by kernel_rfl

/-! 98 slices.ContainsFunc[[]int,int] -/
def s98 : SCode :=
  (sqs [
    (.reg [o 4 (.mov (B false))]),
    (.reg [o 5 (.mov (T 0)), o 6 (.mov (T 1)), o 7 (.call 73 [(T 5), (T 6)]), o 8 (.bin .geq (T 7) (I 0)), o 4 (.mov (T 8))]),
    .ret])
theorem ok98 : cfn Tryz.prog Tryz.f98 2 = some (s98, [.tmp 4]) := by kernel_rfl

/-! 99 impl.areValues$1 -/
def s99 : SCode :=
  (sqs [
    (.reg [o 2 (.mov (B false))]),
    (.reg [o 3 (.mov (T 0)), o 4 (.call 100 [(T 3)]), o 5 (.not (T 4)), o 2 (.mov (T 5))]),
    .ret])
theorem ok99 : cfn Tryz.prog Tryz.f99 1 = some (s99, [.tmp 2]) := by kernel_rfl

/-! 100 impl.IsValue -/
def s100 : SCode :=
  (sqs [
    (.reg [o 2 (.mov (B false))]),
    (.reg [o 3 (.mov (T 0)), o 4 (.call 27 [(T 3), (I (-1000000)), (I 1000000)]), o 2 (.mov (T 4))]),
    .ret])
theorem ok100 : cfn Tryz.prog Tryz.f100 1 = some (s100, [.tmp 2]) := by kernel_rfl

/-! 101 impl.Clamp -/
def s101 : SCode :=
  (sqs [
    (.reg [o 6 (.mov (I 0))]),
    (sqs [
      (.reg [o 7 (.mov (T 2)), o 8 (.mov (T 1)), o 9 (.bin .lss (T 7) (T 8))]),
      (.cond (T 9)
        (sqs [
          (.reg [o 10 (.mov (T 1)), o 6 (.mov (T 10))]),
          .ret])
        .skip)]),
    (.reg [o 11 (.mov (T 0)), o 12 (.mov (T 1)), o 13 (.max (T 11) (T 12)), o 14 (.mov (T 2)), o 15 (.min (T 13) (T 14)), o 6 (.mov (T 15))]),
    .ret])
theorem ok101 : cfn Tryz.prog Tryz.f101 3 = some (s101, [.tmp 6]) := by kernel_rfl

/-! 103 spec.l01Once -/
def s103 : SCode :=
  (sqs [
    (.reg [o 4 (.mov (B false))]),
    (.reg [o 5 (.mov (T 0)), o 6 (.mov (T 1)), o 7 (.call 13 [(T 5), (T 6)]), o 8 (.bin .eql (T 7) (I 0)), o 4 (.mov (T 8))]),
    .ret])
theorem ok103 : cfn Tryz.prog Tryz.f103 2 = some (s103, [.tmp 4]) := by kernel_rfl

/-! 104 spec.l04Stmt -/
def s104 : SCode :=
  (sqs [
    (.reg [o 2 (.zero [(.int .i64 0), (.int .i64 0), (.int .i64 0), (.int .i64 0), (.int .i64 0), (.int .i64 0)])]),
    (sqs [
      (.reg [o 3 (.mov (T 0)), o 4 (.call 13 [(T 3), (I 7)])]),
      (.block 0
        (sqs [
          (sqs [
            (.reg [o 6 (.bin .eql (T 4) (I 0)), o 5 (.mov (T 6))]),
            (.cond (T 5)
              .skip
              (.reg [o 7 (.bin .eql (T 4) (I 1)), o 5 (.mov (T 7))]))]),
          (.cond (T 5)
            (sqs [
              (.reg [o 8 (.mov (T 0)), o 9 (.call 13 [(T 8), (I 5)]), o 10 (.mov (T 0)), o 11 (.call 13 [(T 10), (I 4)]), o 12 (.build [(.int .i64 0), (.int .i64 0), (.int .i64 0), (.int .i64 0), (.int .i64 0), (.int .i64 0)] [(0, 1, (I 2)), (1, 1, (T 9)), (2, 1, (T 11))]), on_ (.store 6 (T 2) (T 12))]),
              .ret])
            (sqs [
              (.reg [o 14 (.bin .eql (T 4) (I 2)), o 13 (.mov (T 14))]),
              (.cond (T 13)
                (sqs [
                  (.reg [o 15 (.mov (T 0)), o 16 (.call 64 [(T 15)]), o 17 (.build [(.int .i64 0), (.int .i64 0), (.int .i64 0), (.int .i64 0), (.int .i64 0), (.int .i64 0)] [(0, 1, (I 3)), (3, 3, (T 16))]), on_ (.store 6 (T 2) (T 17))]),
                  .ret])
                .skip)]))]))]),
    (.reg [o 18 (.mov (T 0)), o 19 (.call 13 [(T 18), (I 5)]), o 20 (.mov (T 0)), o 21 (.call 64 [(T 20)]), o 22 (.build [(.int .i64 0), (.int .i64 0), (.int .i64 0), (.int .i64 0), (.int .i64 0), (.int .i64 0)] [(0, 1, (I 1)), (1, 1, (T 19)), (3, 3, (T 21))]), on_ (.store 6 (T 2) (T 22))]),
    .ret])
theorem ok104 : cfn Tryz.prog Tryz.f104 1 = some (s104, [.cell 2 true 6]) := by kernel_rfl

/-! 105 spec.l01PickInt -/
def s105 : SCode :=
  (sqs [
    (.reg [o 4 (.mov (I 0))]),
    (.reg [o 5 (.mov (T 1)), o 6 (.mov (T 0)), o 7 (.mov (T 1)), o 8 (.len (T 7)), o 9 (.call 13 [(T 6), (T 8)]), o 10 (.idxAddr 1 (T 5) (T 9)), o 11 (.load false 1 (T 10)), o 4 (.mov (T 11))]),
    .ret])
theorem ok105 : cfn Tryz.prog Tryz.f105 2 = some (s105, [.tmp 4]) := by kernel_rfl

end Go.Av

import Derived.Test.YtmhlagakimckjaaNumber
import Derived.Test.YtmhlagakimckjaaShelf
/- What is proved: what number, strings.ContainsFunc (with Decode's own test) and strings.LastIndexByte answer, in the print's form. -/
namespace Go.Proofs.Ytmhlagakimckjaa.Q
open Go.RowKit Go.Proofs.YtmhlagakimckjaaW.PrintWords Go.Proofs.YtmhlagakimckjaaW.PrintLast Go.Proofs.YtmhlagakimckjaaW.PrintMore
set_option linter.unusedVariables false
set_option linter.unusedSimpArgs false

def puny_number.f (s : ByteArray) (i bias : Int) : Option (Int × Int) :=
  if s.size ≤ 140737488351232 ∧ 0 ≤ i ∧ i ≤ 2147483647 ∧ -4294967296 ≤ bias ∧ bias ≤ 4294967296 then some (num (bytesOf s) 0 i 1 bias) else none

theorem puny_number.calls (a0 : ByteArray) (a1 a2 : Int) (r0 r1 : Int) (w : World) (h : puny_number.f a0 a1 a2 = some (r0, r1)) :
    Calls Try.prog 27 #[.string a0, .int .i64 a1, .int .i64 a2] w fun e w' => e = .returned (.tuple #[.int .i64 r0, .int .i64 r1]) ∧ Below w.heap.size w w' := by
  unfold puny_number.f at h
  by_cases c : a0.size ≤ 140737488351232 ∧ 0 ≤ a1 ∧ a1 ≤ 2147483647 ∧ -4294967296 ≤ a2 ∧ a2 ≤ 4294967296
  · rw [if_pos c] at h
    obtain ⟨h0, h1, h2, h3, h4⟩ := c
    have h := Option.some.inj h
    have hc := number_calls a0 a1 a2 w h0 h1 h2 h3 h4
    rw [h] at hc
    exact hc
  · rw [if_neg c] at h
    exact absurd h (by simp)

def strings_LastIndexByte.f (s : ByteArray) (c : Int) : Option Int := if s.size < 4611686018427387904 then some (Lib.lastIndexByte s c) else none
theorem strings_LastIndexByte.calls (a0 : ByteArray) (a1 : Int) (r : Int) (w : World) (h : strings_LastIndexByte.f a0 a1 = some r) :
    Calls Try.prog 26 #[.string a0, .int .u8 a1] w fun e w' => e = .returned (.int .i64 r) ∧ Below w.heap.size w w' := by
  unfold strings_LastIndexByte.f at h
  by_cases c : a0.size < 4611686018427387904
  · rw [if_pos c] at h
    obtain rfl := Option.some.inj h
    refine (Try.strings_LastIndexByte a0 a1 c w).mono ?_
    rintro e w' ⟨rfl, rfl⟩
    exact ⟨rfl, Below.refl _ _⟩
  · rw [if_neg c] at h
    exact absurd h (by simp)

theorem Decode1_calls (r : Int) (w : World) : Calls Try.prog 25 #[.int .i32 r] w fun e w' => e = .returned (.bool (decide (128 ≤ r))) ∧ w' = w := by
  go_enter Try.func25, Try.ntmps25
  go_wp2
  go_ret
  exact ⟨rfl, rfl⟩
def strings_ContainsFunc.f (s : ByteArray) : Option Bool := some (decide (0 ≤ Lib.idxFunc (fun r => decide (128 ≤ r)) true s))
theorem strings_ContainsFunc.calls (a0 : ByteArray) (r : Bool) (w : World) (h : strings_ContainsFunc.f a0 = some r) :
    Calls Try.prog 24 #[.string a0, .func (.func 25) #[] #[]] w fun e w' => e = .returned (.bool r) ∧ Below w.heap.size w w' := by
  unfold strings_ContainsFunc.f at h
  obtain rfl := Option.some.inj h
  refine Try.strings_ContainsFunc 25 #[] ?_ (fun r => decide (128 ≤ r)) a0 w ?_
  · exact fun args w => enters_of Try.func25 (by kernel_rfl) rfl args w
  · intro W x hx
    refine (Decode1_calls x W).mono ?_
    rintro e w' ⟨rfl, rfl⟩
    refine ⟨?_, 0, rfl⟩
    have : decide ((128 : Int) ≤ (x : Int)) = decide (128 ≤ x) := decide_eq_decide.2 (by omega)
    rw [this]
end Go.Proofs.Ytmhlagakimckjaa.Q

import Derived.Test.YtmhlagakimckjaaMem
import Derived.WalkSpells
namespace Go.Proofs.Ytmhlagakimckjaa.Q
open Go.RowKit Go.Proofs.YtmhlagakimckjaaW.PrintWords Go.Proofs.YtmhlagakimckjaaW.PrintLast Go.Proofs.YtmhlagakimckjaaW.PrintMore
set_option linter.unusedVariables false
set_option linter.unusedSimpArgs false

def slices_Clone_rune_rune.f (l0 : List Int) : Option (List Int) := if l0.length ≤ 1099511627776 then some l0 else none

set_option maxHeartbeats 1000000 in
theorem slices_Clone_rune_rune.calls (A0 : Option Addr) (c0 : Nat) (l0 : List Int) (r : List Int) (w : World) (hr0 : Kd.C (Kd.int .i32) w A0 l0.length l0) (hc0 : l0.length ≤ c0) (h : slices_Clone_rune_rune.f l0 = some r) :
    Calls Try.prog 17 #[.slice A0 l0.length c0] w fun e w' => ∃ v0_ : Value, e = .returned v0_ ∧ Kd.R (Kd.int .i32) 21 w' w.heap.size (fun _ => True) v0_ r ∧ Below w.heap.size w w' := by
  unfold slices_Clone_rune_rune.f at h
  by_cases c : l0.length ≤ 1099511627776
  · rw [if_pos c] at h
    obtain rfl := Option.some.inj h
    have hR : ReadsOf (Value.int .i32) (0 : Int) w A0 l0.length l0 := Kd.reads_of_C (d := (0 : Int)) (h1 := fun _ => rfl) hr0
    cases A0 with
    | none =>
      have h0 : l0 = [] := by
        rcases Nat.eq_zero_or_pos l0.length with h0 | h0
        · exact List.length_eq_zero_iff.1 h0
        · obtain ⟨ad, h, _⟩ := hR.2.2 h0
          cases h
      subst h0
      have he := fun (W : World) (n c : Nat) => Lib.run_eql_slice_nil (P := Try.prog) W 22 21 none n c 0 0 Try.underlying22
      go_enter Try.func17, Try.ntmps17
      go_wp2
      go_ret
      exact ⟨_, rfl, Kd.R_nil _ _ _ _ _, Below.refl _ _⟩
    | some ad =>
      have HR := Lib.hid hR
      have he := fun (W : World) (n c : Nat) => Lib.run_eql_slice_nil (P := Try.prog) W 22 21 (some ad) n c 0 0 Try.underlying22
      clear hr0 hR
      go_enter Try.func17, Try.ntmps17
      go_wp2_with (at_builtin; refine print_append_row_of (w0 := w) (Value.int .i32) (0 : Int) w.heap.size rfl _ _ 22 21 (.int .i32 0) 4 rfl Try.underlying22 info21 rfl (by decide) (fun _ => rfl) (.slice (some ⟨w.heap.size, 0, none⟩) 0 0) [] l0 (some ad) l0.length c0 rfl rfl ?c1 ?c2 ?c3 (by simp) ?c5 ?_)
      case c1 => exact own_lit w w.heap.size 21 .i32 [] (Nat.le_refl _) (by simp)
      case c2 => exact HR.out.below (below_alloc (Below.refl _ _) _)
      case c3 => exact below_alloc (Below.refl _ _) _
      case c5 => omega
      intro v1 w1 hown hb hg hat
      go_wp2
      go_ret
      exact ⟨_, rfl, Kd.R_of_own hown (fun _ _ => trivial), hb⟩
  · rw [if_neg c] at h
    exact absurd h (by simp)
end Go.Proofs.Ytmhlagakimckjaa.Q

-- Written by this session's program (a turned print).
import Derived.Test.YtmhlagakimckjaaQ0
import Derived.Test.YtmhlagakimckjaaQ5
import Derived.Test.YtmhlagakimckjaaQ6
namespace Go.Proofs.Ytmhlagakimckjaa.Q
open Go.RowKit Go.Proofs.YtmhlagakimckjaaW.PrintWords Go.Proofs.YtmhlagakimckjaaW.PrintLast Go.Proofs.YtmhlagakimckjaaW.PrintMore
attribute [local go_sem] max2_int min2_int max_two min_two max_three min_three max_four min_four   -- for this text's walks alone
set_option linter.unusedVariables false
set_option linter.unusedSimpArgs false

/-! ### portcullisref05_Encode: function 10 -/
mutual
def portcullisref05_Encode.l0 : Nat → List Int → List Int → Int → Option (ByteArray × Int)
  | 0, _, _, _ => none
  | k + 1, x0, x4, x5 => if x5 < (x0.length : Int) then (if 0 ≤ x5 then ((portcullisref01_Scalar.f (rd x0 x5)).bind fun t163 => (if t163 = true then (if (rd x0 x5) < 128 then (if x4.length < 140737488355328 then (portcullisref05_Encode.l0 k x0 (x4 ++ [(rd x0 x5) % 256]) (wrap64 (x5 + 1))) else (none)) else (portcullisref05_Encode.l0 k x0 x4 (wrap64 (x5 + 1)))) else (some ((⟨#[]⟩ : ByteArray), 2)))) else (none)) else (if (x4.length : Int) > 0 then (if x4.length < 140737488355328 then (portcullisref05_Encode.j1 k x0 (x4 ++ [45]) (x4.length : Int)) else (none)) else (portcullisref05_Encode.j1 k x0 x4 (x4.length : Int)))
def portcullisref05_Encode.j1 : Nat → List Int → List Int → Int → Option (ByteArray × Int)
  | 0, _, _, _ => none
  | k + 1, x0, x4, x6 => portcullisref05_Encode.l1 k x0 x4 x6 128 0 72 x6
def portcullisref05_Encode.l1 : Nat → List Int → List Int → Int → Int → Int → Int → Int → Option (ByteArray × Int)
  | 0, _, _, _, _, _, _, _ => none
  | k + 1, x0, x4, x6, x7, x8, x9, x10 => if x10 < (x0.length : Int) then (portcullisref05_Encode.l2 k x0 x4 x6 x7 x8 x9 x10 1114112 0) else (if (x4.length : Int) > 63 then (some ((⟨#[]⟩ : ByteArray), 4)) else (some (strOfNums x4, 0)))
def portcullisref05_Encode.l2 : Nat → List Int → List Int → Int → Int → Int → Int → Int → Int → Int → Option (ByteArray × Int)
  | 0, _, _, _, _, _, _, _, _, _ => none
  | k + 1, x0, x4, x6, x7, x8, x9, x10, x11, x12 => if x12 < (x0.length : Int) then (if 0 ≤ x12 then (if (rd x0 x12) ≥ x7 then (if (rd x0 x12) < x11 then (portcullisref05_Encode.l2 k x0 x4 x6 x7 x8 x9 x10 (rd x0 x12) (wrap64 (x12 + 1))) else (portcullisref05_Encode.l2 k x0 x4 x6 x7 x8 x9 x10 x11 (wrap64 (x12 + 1)))) else (portcullisref05_Encode.l2 k x0 x4 x6 x7 x8 x9 x10 x11 (wrap64 (x12 + 1)))) else (none)) else (portcullisref05_Encode.l3 k x0 x4 x6 x11 (wrap64 (x8 + (wrap64 ((wrap64 (wrap32 (x11 - x7))) * (wrap64 (x10 + 1)))))) x9 x10 0)
def portcullisref05_Encode.l3 : Nat → List Int → List Int → Int → Int → Int → Int → Int → Int → Option (ByteArray × Int)
  | 0, _, _, _, _, _, _, _, _ => none
  | k + 1, x0, x4, x6, x7, x8, x9, x10, x13 => if x13 < (x0.length : Int) then (if 0 ≤ x13 then (if (rd x0 x13) < x7 then (portcullisref05_Encode.j5 k x0 x4 x6 x7 (wrap64 (x8 + 1)) x9 x10 x13) else (portcullisref05_Encode.j5 k x0 x4 x6 x7 x8 x9 x10 x13)) else (none)) else (portcullisref05_Encode.l1 k x0 x4 x6 (wrap32 (x7 + 1)) (wrap64 (x8 + 1)) x9 x10)
def portcullisref05_Encode.j5 : Nat → List Int → List Int → Int → Int → Int → Int → Int → Int → Option (ByteArray × Int)
  | 0, _, _, _, _, _, _, _, _ => none
  | k + 1, x0, x4, x6, x7, x8, x9, x10, x13 => if 0 ≤ x13 then (if x13 < (x0.length : Int) then (if (rd x0 x13) = x7 then (portcullisref05_Encode.l4 k x0 x4 x6 x7 x8 x9 x10 x13 x8 36) else (portcullisref05_Encode.l3 k x0 x4 x6 x7 x8 x9 x10 (wrap64 (x13 + 1)))) else (none)) else (none)
def portcullisref05_Encode.l4 : Nat → List Int → List Int → Int → Int → Int → Int → Int → Int → Int → Int → Option (ByteArray × Int)
  | 0, _, _, _, _, _, _, _, _, _, _ => none
  | k + 1, x0, x4, x6, x7, x8, x9, x10, x13, x14, x15 => (portcullisref05_threshold.f x15 x9).bind fun t177 => (if x14 < t177 then ((portcullisref05_letter.f x14).bind fun t178 => (if x4.length < 140737488355328 then ((portcullisref05_Adapt.f k x8 (wrap64 (x10 + 1)) (x10 == x6)).bind fun t182 => (portcullisref05_Encode.l3 k x0 (x4 ++ [t178]) x6 x7 0 t182 (wrap64 (x10 + 1)) (wrap64 (x13 + 1)))) else (none))) else (if (wrap64 (36 - t177)) = 0 then (none) else ((portcullisref05_letter.f (wrap64 (t177 + (Int.tmod (wrap64 (x14 - t177)) (wrap64 (36 - t177)))))).bind fun t183 => (if x4.length < 140737488355328 then (portcullisref05_Encode.l4 k x0 (x4 ++ [t183]) x6 x7 x8 x9 x10 x13 (wrap64 (Int.tdiv (wrap64 (x14 - t177)) (wrap64 (36 - t177)))) (wrap64 (x15 + 36))) else (none)))))
end
def portcullisref05_Encode.f (k : Nat) (l0 : List Int) : Option (ByteArray × Int) := if (l0.length : Int) > 63 then (some ((⟨#[]⟩ : ByteArray), 4)) else (portcullisref05_Encode.l0 k l0 ([] : List Int) 0)
theorem portcullisref05_Encode.mono_l : ∀ k, (∀ y0 y1 y2, LeO (portcullisref05_Encode.l0 k y0 y1 y2) (portcullisref05_Encode.l0 (k + 1) y0 y1 y2)) ∧ (∀ y0 y1 y2, LeO (portcullisref05_Encode.j1 k y0 y1 y2) (portcullisref05_Encode.j1 (k + 1) y0 y1 y2)) ∧ (∀ y0 y1 y2 y3 y4 y5 y6, LeO (portcullisref05_Encode.l1 k y0 y1 y2 y3 y4 y5 y6) (portcullisref05_Encode.l1 (k + 1) y0 y1 y2 y3 y4 y5 y6)) ∧ (∀ y0 y1 y2 y3 y4 y5 y6 y7 y8, LeO (portcullisref05_Encode.l2 k y0 y1 y2 y3 y4 y5 y6 y7 y8) (portcullisref05_Encode.l2 (k + 1) y0 y1 y2 y3 y4 y5 y6 y7 y8)) ∧ (∀ y0 y1 y2 y3 y4 y5 y6 y7, LeO (portcullisref05_Encode.l3 k y0 y1 y2 y3 y4 y5 y6 y7) (portcullisref05_Encode.l3 (k + 1) y0 y1 y2 y3 y4 y5 y6 y7)) ∧ (∀ y0 y1 y2 y3 y4 y5 y6 y7, LeO (portcullisref05_Encode.j5 k y0 y1 y2 y3 y4 y5 y6 y7) (portcullisref05_Encode.j5 (k + 1) y0 y1 y2 y3 y4 y5 y6 y7)) ∧ (∀ y0 y1 y2 y3 y4 y5 y6 y7 y8 y9, LeO (portcullisref05_Encode.l4 k y0 y1 y2 y3 y4 y5 y6 y7 y8 y9) (portcullisref05_Encode.l4 (k + 1) y0 y1 y2 y3 y4 y5 y6 y7 y8 y9))
  | 0 => ⟨fun _ _ _ r h => by simp [portcullisref05_Encode.l0] at h, fun _ _ _ r h => by simp [portcullisref05_Encode.j1] at h, fun _ _ _ _ _ _ _ r h => by simp [portcullisref05_Encode.l1] at h, fun _ _ _ _ _ _ _ _ _ r h => by simp [portcullisref05_Encode.l2] at h, fun _ _ _ _ _ _ _ _ r h => by simp [portcullisref05_Encode.l3] at h, fun _ _ _ _ _ _ _ _ r h => by simp [portcullisref05_Encode.j5] at h, fun _ _ _ _ _ _ _ _ _ _ r h => by simp [portcullisref05_Encode.l4] at h⟩
  | k + 1 => by
    obtain ⟨ih0, ih1, ih2, ih3, ih4, ih5, ih6⟩ := portcullisref05_Encode.mono_l k
    refine ⟨?_, ?_, ?_, ?_, ?_, ?_, ?_⟩
    · intro y0 y1 y2
      unfold portcullisref05_Encode.l0
      repeat' first
      | (with_reducible exact ih0 _ _ _)
      | (with_reducible exact ih1 _ _ _)
      | (with_reducible exact ih2 _ _ _ _ _ _ _)
      | (with_reducible exact ih3 _ _ _ _ _ _ _ _ _)
      | (with_reducible exact ih4 _ _ _ _ _ _ _ _)
      | (with_reducible exact ih5 _ _ _ _ _ _ _ _)
      | (with_reducible exact ih6 _ _ _ _ _ _ _ _ _ _)
      | (with_reducible exact portcullisref05_Adapt.mono _ _ _ _)
      | (with_reducible exact LeO.refl _)
      | (with_reducible exact LeO.none _)
      | (with_reducible refine LeO.ite ?_ ?_)
      | (with_reducible refine LeO.bind ?_ (fun _ => ?_))
      | exact ih0 _ _ _
      | exact ih1 _ _ _
      | exact ih2 _ _ _ _ _ _ _
      | exact ih3 _ _ _ _ _ _ _ _ _
      | exact ih4 _ _ _ _ _ _ _ _
      | exact ih5 _ _ _ _ _ _ _ _
      | exact ih6 _ _ _ _ _ _ _ _ _ _
      | exact portcullisref05_Adapt.mono _ _ _ _
      | exact LeO.none _
      | refine LeO.ite ?_ ?_
      | refine LeO.bind ?_ (fun _ => ?_)
    · intro y0 y1 y2
      unfold portcullisref05_Encode.j1
      repeat' first
      | (with_reducible exact ih0 _ _ _)
      | (with_reducible exact ih1 _ _ _)
      | (with_reducible exact ih2 _ _ _ _ _ _ _)
      | (with_reducible exact ih3 _ _ _ _ _ _ _ _ _)
      | (with_reducible exact ih4 _ _ _ _ _ _ _ _)
      | (with_reducible exact ih5 _ _ _ _ _ _ _ _)
      | (with_reducible exact ih6 _ _ _ _ _ _ _ _ _ _)
      | (with_reducible exact portcullisref05_Adapt.mono _ _ _ _)
      | (with_reducible exact LeO.refl _)
      | (with_reducible exact LeO.none _)
      | (with_reducible refine LeO.ite ?_ ?_)
      | (with_reducible refine LeO.bind ?_ (fun _ => ?_))
      | exact ih0 _ _ _
      | exact ih1 _ _ _
      | exact ih2 _ _ _ _ _ _ _
      | exact ih3 _ _ _ _ _ _ _ _ _
      | exact ih4 _ _ _ _ _ _ _ _
      | exact ih5 _ _ _ _ _ _ _ _
      | exact ih6 _ _ _ _ _ _ _ _ _ _
      | exact portcullisref05_Adapt.mono _ _ _ _
      | exact LeO.none _
      | refine LeO.ite ?_ ?_
      | refine LeO.bind ?_ (fun _ => ?_)
    · intro y0 y1 y2 y3 y4 y5 y6
      unfold portcullisref05_Encode.l1
      repeat' first
      | (with_reducible exact ih0 _ _ _)
      | (with_reducible exact ih1 _ _ _)
      | (with_reducible exact ih2 _ _ _ _ _ _ _)
      | (with_reducible exact ih3 _ _ _ _ _ _ _ _ _)
      | (with_reducible exact ih4 _ _ _ _ _ _ _ _)
      | (with_reducible exact ih5 _ _ _ _ _ _ _ _)
      | (with_reducible exact ih6 _ _ _ _ _ _ _ _ _ _)
      | (with_reducible exact portcullisref05_Adapt.mono _ _ _ _)
      | (with_reducible exact LeO.refl _)
      | (with_reducible exact LeO.none _)
      | (with_reducible refine LeO.ite ?_ ?_)
      | (with_reducible refine LeO.bind ?_ (fun _ => ?_))
      | exact ih0 _ _ _
      | exact ih1 _ _ _
      | exact ih2 _ _ _ _ _ _ _
      | exact ih3 _ _ _ _ _ _ _ _ _
      | exact ih4 _ _ _ _ _ _ _ _
      | exact ih5 _ _ _ _ _ _ _ _
      | exact ih6 _ _ _ _ _ _ _ _ _ _
      | exact portcullisref05_Adapt.mono _ _ _ _
      | exact LeO.none _
      | refine LeO.ite ?_ ?_
      | refine LeO.bind ?_ (fun _ => ?_)
    · intro y0 y1 y2 y3 y4 y5 y6 y7 y8
      unfold portcullisref05_Encode.l2
      repeat' first
      | (with_reducible exact ih0 _ _ _)
      | (with_reducible exact ih1 _ _ _)
      | (with_reducible exact ih2 _ _ _ _ _ _ _)
      | (with_reducible exact ih3 _ _ _ _ _ _ _ _ _)
      | (with_reducible exact ih4 _ _ _ _ _ _ _ _)
      | (with_reducible exact ih5 _ _ _ _ _ _ _ _)
      | (with_reducible exact ih6 _ _ _ _ _ _ _ _ _ _)
      | (with_reducible exact portcullisref05_Adapt.mono _ _ _ _)
      | (with_reducible exact LeO.refl _)
      | (with_reducible exact LeO.none _)
      | (with_reducible refine LeO.ite ?_ ?_)
      | (with_reducible refine LeO.bind ?_ (fun _ => ?_))
      | exact ih0 _ _ _
      | exact ih1 _ _ _
      | exact ih2 _ _ _ _ _ _ _
      | exact ih3 _ _ _ _ _ _ _ _ _
      | exact ih4 _ _ _ _ _ _ _ _
      | exact ih5 _ _ _ _ _ _ _ _
      | exact ih6 _ _ _ _ _ _ _ _ _ _
      | exact portcullisref05_Adapt.mono _ _ _ _
      | exact LeO.none _
      | refine LeO.ite ?_ ?_
      | refine LeO.bind ?_ (fun _ => ?_)
    · intro y0 y1 y2 y3 y4 y5 y6 y7
      unfold portcullisref05_Encode.l3
      repeat' first
      | (with_reducible exact ih0 _ _ _)
      | (with_reducible exact ih1 _ _ _)
      | (with_reducible exact ih2 _ _ _ _ _ _ _)
      | (with_reducible exact ih3 _ _ _ _ _ _ _ _ _)
      | (with_reducible exact ih4 _ _ _ _ _ _ _ _)
      | (with_reducible exact ih5 _ _ _ _ _ _ _ _)
      | (with_reducible exact ih6 _ _ _ _ _ _ _ _ _ _)
      | (with_reducible exact portcullisref05_Adapt.mono _ _ _ _)
      | (with_reducible exact LeO.refl _)
      | (with_reducible exact LeO.none _)
      | (with_reducible refine LeO.ite ?_ ?_)
      | (with_reducible refine LeO.bind ?_ (fun _ => ?_))
      | exact ih0 _ _ _
      | exact ih1 _ _ _
      | exact ih2 _ _ _ _ _ _ _
      | exact ih3 _ _ _ _ _ _ _ _ _
      | exact ih4 _ _ _ _ _ _ _ _
      | exact ih5 _ _ _ _ _ _ _ _
      | exact ih6 _ _ _ _ _ _ _ _ _ _
      | exact portcullisref05_Adapt.mono _ _ _ _
      | exact LeO.none _
      | refine LeO.ite ?_ ?_
      | refine LeO.bind ?_ (fun _ => ?_)
    · intro y0 y1 y2 y3 y4 y5 y6 y7
      unfold portcullisref05_Encode.j5
      repeat' first
      | (with_reducible exact ih0 _ _ _)
      | (with_reducible exact ih1 _ _ _)
      | (with_reducible exact ih2 _ _ _ _ _ _ _)
      | (with_reducible exact ih3 _ _ _ _ _ _ _ _ _)
      | (with_reducible exact ih4 _ _ _ _ _ _ _ _)
      | (with_reducible exact ih5 _ _ _ _ _ _ _ _)
      | (with_reducible exact ih6 _ _ _ _ _ _ _ _ _ _)
      | (with_reducible exact portcullisref05_Adapt.mono _ _ _ _)
      | (with_reducible exact LeO.refl _)
      | (with_reducible exact LeO.none _)
      | (with_reducible refine LeO.ite ?_ ?_)
      | (with_reducible refine LeO.bind ?_ (fun _ => ?_))
      | exact ih0 _ _ _
      | exact ih1 _ _ _
      | exact ih2 _ _ _ _ _ _ _
      | exact ih3 _ _ _ _ _ _ _ _ _
      | exact ih4 _ _ _ _ _ _ _ _
      | exact ih5 _ _ _ _ _ _ _ _
      | exact ih6 _ _ _ _ _ _ _ _ _ _
      | exact portcullisref05_Adapt.mono _ _ _ _
      | exact LeO.none _
      | refine LeO.ite ?_ ?_
      | refine LeO.bind ?_ (fun _ => ?_)
    · intro y0 y1 y2 y3 y4 y5 y6 y7 y8 y9
      unfold portcullisref05_Encode.l4
      repeat' first
      | (with_reducible exact ih0 _ _ _)
      | (with_reducible exact ih1 _ _ _)
      | (with_reducible exact ih2 _ _ _ _ _ _ _)
      | (with_reducible exact ih3 _ _ _ _ _ _ _ _ _)
      | (with_reducible exact ih4 _ _ _ _ _ _ _ _)
      | (with_reducible exact ih5 _ _ _ _ _ _ _ _)
      | (with_reducible exact ih6 _ _ _ _ _ _ _ _ _ _)
      | (with_reducible exact portcullisref05_Adapt.mono _ _ _ _)
      | (with_reducible exact LeO.refl _)
      | (with_reducible exact LeO.none _)
      | (with_reducible refine LeO.ite ?_ ?_)
      | (with_reducible refine LeO.bind ?_ (fun _ => ?_))
      | exact ih0 _ _ _
      | exact ih1 _ _ _
      | exact ih2 _ _ _ _ _ _ _
      | exact ih3 _ _ _ _ _ _ _ _ _
      | exact ih4 _ _ _ _ _ _ _ _
      | exact ih5 _ _ _ _ _ _ _ _
      | exact ih6 _ _ _ _ _ _ _ _ _ _
      | exact portcullisref05_Adapt.mono _ _ _ _
      | exact LeO.none _
      | refine LeO.ite ?_ ?_
      | refine LeO.bind ?_ (fun _ => ?_)
theorem portcullisref05_Encode.mono : ∀ a0 k, LeO (portcullisref05_Encode.f k a0) (portcullisref05_Encode.f (k + 1) a0) := by
  intro a0 k
  obtain ⟨ih0, ih1, ih2, ih3, ih4, ih5, ih6⟩ := portcullisref05_Encode.mono_l k
  unfold portcullisref05_Encode.f
  repeat' first
      | (with_reducible exact ih0 _ _ _)
      | (with_reducible exact ih1 _ _ _)
      | (with_reducible exact ih2 _ _ _ _ _ _ _)
      | (with_reducible exact ih3 _ _ _ _ _ _ _ _ _)
      | (with_reducible exact ih4 _ _ _ _ _ _ _ _)
      | (with_reducible exact ih5 _ _ _ _ _ _ _ _)
      | (with_reducible exact ih6 _ _ _ _ _ _ _ _ _ _)
      | (with_reducible exact portcullisref05_Adapt.mono _ _ _ _)
      | (with_reducible exact LeO.refl _)
      | (with_reducible exact LeO.none _)
      | (with_reducible refine LeO.ite ?_ ?_)
      | (with_reducible refine LeO.bind ?_ (fun _ => ?_))
      | exact ih0 _ _ _
      | exact ih1 _ _ _
      | exact ih2 _ _ _ _ _ _ _
      | exact ih3 _ _ _ _ _ _ _ _ _
      | exact ih4 _ _ _ _ _ _ _ _
      | exact ih5 _ _ _ _ _ _ _ _
      | exact ih6 _ _ _ _ _ _ _ _ _ _
      | exact portcullisref05_Adapt.mono _ _ _ _
      | exact LeO.none _
      | refine LeO.ite ?_ ?_
      | refine LeO.bind ?_ (fun _ => ?_)
set_option maxHeartbeats 8000000 in
set_option maxRecDepth 100000 in
theorem portcullisref05_Encode.calls (k : Nat) (A0 : Option Addr) (c0 : Nat) (l0 : List Int) (r1 : ByteArray) (r2 : Int) (w : World) (hr0 : Kd.C (Kd.int .i32) w A0 l0.length l0) (hc0 : l0.length ≤ c0) (h : portcullisref05_Encode.f k l0 = some (r1, r2)) :
    Calls Try.prog 10 #[.slice A0 l0.length c0] w fun e w' => e = .returned (.tuple #[.string r1, .int .i64 r2]) ∧ Below w.heap.size w w' := by
  have HR0 := Aside0.mk hr0
  have HC0 := Aside0.mk hc0
  clear hr0 hc0
  have HB := Aside0.mk (Below.refl w.heap.size w)
  have H : (if (l0.length : Int) > 63 then (some ((⟨#[]⟩ : ByteArray), 4)) else (portcullisref05_Encode.l0 k l0 ([] : List Int) 0)) = some (r1, r2) := h
  clear h
  by_cases c2 : (l0.length : Int) > 63
  · rw [if_pos c2] at H
    have c2b0 : decide (63 < (l0.length : Int)) = true := decide_eq_true c2
    have c2b1 : decide (63 < l0.length) = true := decide_eq_true (by omega)
    have c2b2 : 63 < l0.length := by omega
    clear c2
    simp only [Option.some.injEq, Prod.mk.injEq] at H
    obtain ⟨rfl, rfl⟩ := H
    go_enter Try.func10, Try.ntmps10
    go_wp2
    go_ret2
    exact ⟨by first | rfl | (simp [errW_none, errW_some] <;> rfl) | (simp [*, errW_none, errW_some] <;> rfl), by repeat (first | (with_reducible first | exact HB.out | apply below_alloc | apply pw_below_drewN | apply below_drew1) | exact HB.out)⟩
  · rw [if_neg c2] at H
    have c2b0 : decide (63 < (l0.length : Int)) = false := decide_eq_false c2
    have c2b1 : decide (63 < l0.length) = false := decide_eq_false (by omega)
    have c2b2 : l0.length ≤ 63 := by omega
    clear c2
    have H' := Aside0.mk H
    clear H
    go_enter Try.func10, Try.ntmps10
    go_wp2
    go_loopg [4, 5] k (fun kq v4 v5 w' => ∃ (x4_1 : List Int) (x5_1 : Int), v5 = .int .i64 x5_1 ∧ Aside0 (portcullisref05_Encode.l0 kq l0 x4_1 x5_1 = some (r1, r2)) ∧ Aside0 (kq ≤ k) ∧ Aside0 (Kd.R (Kd.int .u8) 5 w' w.heap.size (fun _ => True) v4 x4_1) ∧ Aside0 (Below w.heap.size w w'))
    case atStart => exact ⟨(([] : List Int)), (0), (by first | rfl | (simp; done) | (simp [*]; done)), H', ⟨Nat.le_refl _⟩, ⟨by first | exact Kd.R_nil _ _ _ _ _ | exact Kd.N_nil _ _ _ _ _ | exact Kd.V_nil _ _ _ _ _ | exact Kd.Q_nil _ _ _ _ _ | exact Kd.S_nil _ _ _ _ _⟩, ⟨by repeat (first | (with_reducible first | exact HB.out | apply below_alloc | apply pw_below_drewN | apply below_drew1) | exact HB.out)⟩⟩
    case round =>
      clear H'
      try clear c1
      try clear c2
      try clear c2b0
      try clear c2b1
      try clear c2b2
      try clear p2
      obtain ⟨x4_1, x5_1, rfl, HA, HK1, HO_4, HB⟩ := hrel
      cases gk with
      | zero => exact absurd HA.out (by simp [portcullisref05_Encode.l0])
      | succ k1 =>
        have H := HA.out
        clear HA
        simp only [portcullisref05_Encode.l0] at H
        by_cases c3 : x5_1 < (l0.length : Int)
        · rw [if_pos c3] at H
          have c3b0 : decide (x5_1 < (l0.length : Int)) = true := decide_eq_true c3
          clear c3
          by_cases c4 : 0 ≤ x5_1
          · rw [if_pos c4] at H
            have c4b0 : decide (0 ≤ x5_1) = true := decide_eq_true c4
            clear c4
            replace H := Option.bind_eq_some_iff.mp H
            obtain ⟨t163, A50, H⟩ := H
            replace H : (if t163 = true then (if (rd l0 x5_1) < 128 then (if x4_1.length < 140737488355328 then (portcullisref05_Encode.l0 k1 l0 (x4_1 ++ [(rd l0 x5_1) % 256]) (wrap64 (x5_1 + 1))) else (none)) else (portcullisref05_Encode.l0 k1 l0 x4_1 (wrap64 (x5_1 + 1)))) else (some ((⟨#[]⟩ : ByteArray), 2))) = some (r1, r2) := H
            have A5 := Aside0.mk A50
            clear A50
            by_cases c6 : t163 = true
            · subst c6
              have H1 : (if (rd l0 x5_1) < 128 then (if x4_1.length < 140737488355328 then (portcullisref05_Encode.l0 k1 l0 (x4_1 ++ [(rd l0 x5_1) % 256]) (wrap64 (x5_1 + 1))) else (none)) else (portcullisref05_Encode.l0 k1 l0 x4_1 (wrap64 (x5_1 + 1)))) = some (r1, r2) := by rw [if_pos rfl] at H; exact H
              clear H
              have H := H1
              clear H1
              by_cases c7 : (rd l0 x5_1) < 128
              · rw [if_pos c7] at H
                have c7b0 : decide ((rd l0 x5_1) < 128) = true := decide_eq_true c7
                clear c7
                by_cases c8 : x4_1.length < 140737488355328
                · rw [if_pos c8] at H
                  have LMc8 := Aside0.mk c8
                  clear c8
                  obtain ⟨y166, hy166⟩ : ∃ y_ : List Int, y_ = (x4_1 ++ [(rd l0 x5_1) % 256]) := ⟨_, rfl⟩
                  replace H : (portcullisref05_Encode.l0 k1 l0 y166 (wrap64 (x5_1 + 1))) = some (r1, r2) := by first | (rw [hy166]; with_reducible exact H) | (have H2_ := (Option.bind_some _ _).symm.trans H; rw [hy166]; with_reducible exact H2_) | (have H2_ := (Option.bind_some _ _).symm.trans H; with_reducible exact H2_) | with_reducible exact H | (rw [hy166]; exact H) | exact H
                  have Ny166 := Aside0.mk hy166
                  clear hy166
                  have H' := Aside0.mk H
                  clear H
                  have p162 : 0 ≤ (x5_1 : Int) := of_decide_eq_true (by first | (with_reducible assumption) | assumption)
                  have q162 : x5_1 < (l0.length : Int) := of_decide_eq_true (by first | (with_reducible assumption) | assumption)
                  obtain ⟨ad162, e162, hx162_0⟩ := Kd.at_int HR0.out x5_1 p162 q162
                  cases e162
                  replace hx162_0 := (HB.out.cell (World.block_lt_of_cell? w _ hx162_0)).trans hx162_0
                  replace p162 := eq_true p162
                  replace q162 := eq_true q162
                  go_wp2_with (first | ((with_reducible refine gate_callee (f := 21) rfl ?_); refine goesL_ (some 30) rfl rfl Try.func21 (by kernel_rfl) rfl #[.int .i32 (rd l0 x5_1)] rfl (by (try simp only [List.map_toArray, List.map_cons, List.map_nil]); first | done | rfl | (simp only [List.length_drop, List.length_take]; rfl)) ?_; (with_reducible refine (portcullisref01_Scalar.calls (rd l0 x5_1) true _ A5.out).mono ?_); rintro e w' ⟨rfl, ⟨nd, rfl⟩⟩; refine ⟨_, rfl, ?_⟩; have p164 : 0 ≤ (x5_1 : Int) := of_decide_eq_true (by first | (with_reducible assumption) | assumption); have q164 : x5_1 < (l0.length : Int) := of_decide_eq_true (by first | (with_reducible assumption) | assumption); obtain ⟨ad164, e164, hx164_0⟩ := Kd.at_int HR0.out x5_1 p164 q164; obtain rfl : ad162 = ad164 := (by injection e164); replace hx164_0 := (HB.out.cell (World.block_lt_of_cell? w _ hx164_0)).trans hx164_0; replace p164 := eq_true p164; replace q164 := eq_true q164; have p165 : 0 ≤ (x5_1 : Int) := of_decide_eq_true (by first | (with_reducible assumption) | assumption); have q165 : x5_1 < (l0.length : Int) := of_decide_eq_true (by first | (with_reducible assumption) | assumption); obtain ⟨ad165, e165, hx165_0⟩ := Kd.at_int HR0.out x5_1 p165 q165; obtain rfl : ad162 = ad165 := (by injection e165); replace hx165_0 := (HB.out.cell (World.block_lt_of_cell? w _ hx165_0)).trans hx165_0; replace p165 := eq_true p165; replace q165 := eq_true q165) | ((with_reducible refine gate_builtin (b := .append) (xs := #[.tmp 37, .tmp 43]) rfl ?_); at_builtin; refine Kd.R_append (Kd.int .u8) (w0 := w) w.heap.size rfl (.tmp 37) (.tmp 43) 34 5 (.int .u8 0) 1 rfl Try.underlying34 info5 rfl (by decide) (by omega) u4 x4_1 ((rd l0 x5_1) % 256) [.int .u8 ((rd l0 x5_1) % 256)] (fun _ => True) (fun _ => False) rfl rfl ?aP (fun _ hk => hk.elim) ?aF ?aO ?aB ?aS ?aL ?_; (case aP => exact rfl); (case aB => exact (by repeat (first | (with_reducible first | exact HB.out | apply below_alloc | apply pw_below_drewN | apply below_drew1) | exact HB.out))); (case aF => exact (fun _ _ => trivial)); (case aO => exact (by (with_reducible repeat (first | apply Kd.R_alloc | apply Kd.R_drewN | apply Kd.R_drew)); exact HO_4.out)); (case aS => exact (below_size (by repeat (first | (with_reducible first | exact HB.out | apply below_alloc | apply pw_below_drewN | apply below_drew1) | exact HB.out)))); (case aL => have := LMc8.out; omega); intro v167 w9 ho hb hg hat; rw [← Ny166.out] at ho; have n0_ := Aside0.mk (hb); have n1_ := Aside0.mk (ho); clear HB; clear HO_4; have HB := n0_; have HO168 := n1_; clear n0_ n1_; clear ho hb hg hat))
                  go_roundg k1
                  case measure => have := HK1.out; omega
                  case rel => exact ⟨(y166), (wrap64 (x5_1 + 1)), (by first | rfl | (simp; done) | (simp [*]; done)), H', ⟨by have := HK1.out; omega⟩, ⟨by (with_reducible repeat (first | apply Kd.R_alloc | apply Kd.R_drewN | apply Kd.R_drew)); exact HO168.out⟩, ⟨by repeat (first | (with_reducible first | exact HB.out | apply below_alloc | apply pw_below_drewN | apply below_drew1) | exact HB.out)⟩⟩
                · rw [if_neg c8] at H
                  exact absurd H (by simp)
              · rw [if_neg c7] at H
                have c7b0 : decide ((rd l0 x5_1) < 128) = false := decide_eq_false c7
                clear c7
                have H' := Aside0.mk H
                clear H
                have p162 : 0 ≤ (x5_1 : Int) := of_decide_eq_true (by first | (with_reducible assumption) | assumption)
                have q162 : x5_1 < (l0.length : Int) := of_decide_eq_true (by first | (with_reducible assumption) | assumption)
                obtain ⟨ad162, e162, hx162_0⟩ := Kd.at_int HR0.out x5_1 p162 q162
                cases e162
                replace hx162_0 := (HB.out.cell (World.block_lt_of_cell? w _ hx162_0)).trans hx162_0
                replace p162 := eq_true p162
                replace q162 := eq_true q162
                go_wp2_with (first | ((with_reducible refine gate_callee (f := 21) rfl ?_); refine goesL_ (some 30) rfl rfl Try.func21 (by kernel_rfl) rfl #[.int .i32 (rd l0 x5_1)] rfl (by (try simp only [List.map_toArray, List.map_cons, List.map_nil]); first | done | rfl | (simp only [List.length_drop, List.length_take]; rfl)) ?_; (with_reducible refine (portcullisref01_Scalar.calls (rd l0 x5_1) true _ A5.out).mono ?_); rintro e w' ⟨rfl, ⟨nd, rfl⟩⟩; refine ⟨_, rfl, ?_⟩; have p164 : 0 ≤ (x5_1 : Int) := of_decide_eq_true (by first | (with_reducible assumption) | assumption); have q164 : x5_1 < (l0.length : Int) := of_decide_eq_true (by first | (with_reducible assumption) | assumption); obtain ⟨ad164, e164, hx164_0⟩ := Kd.at_int HR0.out x5_1 p164 q164; obtain rfl : ad162 = ad164 := (by injection e164); replace hx164_0 := (HB.out.cell (World.block_lt_of_cell? w _ hx164_0)).trans hx164_0; replace p164 := eq_true p164; replace q164 := eq_true q164))
                go_roundg k1
                case measure => have := HK1.out; omega
                case rel => exact ⟨(x4_1), (wrap64 (x5_1 + 1)), (by first | rfl | (simp; done) | (simp [*]; done)), H', ⟨by have := HK1.out; omega⟩, ⟨by (with_reducible repeat (first | apply Kd.R_alloc | apply Kd.R_drewN | apply Kd.R_drew)); exact HO_4.out⟩, ⟨by repeat (first | (with_reducible first | exact HB.out | apply below_alloc | apply pw_below_drewN | apply below_drew1) | exact HB.out)⟩⟩
            · replace c6 := Bool.eq_false_iff.mpr c6
              subst c6
              have H1 : (some ((⟨#[]⟩ : ByteArray), 2)) = some (r1, r2) := by rw [if_neg (show ¬ (false = true) by decide)] at H; exact H
              clear H
              have H := H1
              clear H1
              simp only [Option.some.injEq, Prod.mk.injEq] at H
              obtain ⟨rfl, rfl⟩ := H
              have p162 : 0 ≤ (x5_1 : Int) := of_decide_eq_true (by first | (with_reducible assumption) | assumption)
              have q162 : x5_1 < (l0.length : Int) := of_decide_eq_true (by first | (with_reducible assumption) | assumption)
              obtain ⟨ad162, e162, hx162_0⟩ := Kd.at_int HR0.out x5_1 p162 q162
              cases e162
              replace hx162_0 := (HB.out.cell (World.block_lt_of_cell? w _ hx162_0)).trans hx162_0
              replace p162 := eq_true p162
              replace q162 := eq_true q162
              go_wp2_with (first | ((with_reducible refine gate_callee (f := 21) rfl ?_); refine goesL_ (some 30) rfl rfl Try.func21 (by kernel_rfl) rfl #[.int .i32 (rd l0 x5_1)] rfl (by (try simp only [List.map_toArray, List.map_cons, List.map_nil]); first | done | rfl | (simp only [List.length_drop, List.length_take]; rfl)) ?_; (with_reducible refine (portcullisref01_Scalar.calls (rd l0 x5_1) false _ A5.out).mono ?_); rintro e w' ⟨rfl, ⟨nd, rfl⟩⟩; refine ⟨_, rfl, ?_⟩))
              go_ret2
              exact ⟨by first | rfl | (simp [errW_none, errW_some] <;> rfl) | (simp [*, errW_none, errW_some] <;> rfl), by repeat (first | (with_reducible first | exact HB.out | apply below_alloc | apply pw_below_drewN | apply below_drew1) | exact HB.out)⟩
          · rw [if_neg c4] at H
            exact absurd H (by simp)
        · rw [if_neg c3] at H
          have c3b0 : decide (x5_1 < (l0.length : Int)) = false := decide_eq_false c3
          clear c3
          have HC10 := Aside0.mk H
          clear H
          obtain ⟨Ao11, co11, eo11⟩ := Kd.R_slice HO_4.out
          subst eo11
          go_upto_if 48 with (fail)
          go_cut [4] (fun v4 wc => ∃ (kq : Nat) (x4_9 : List Int), Aside0 (portcullisref05_Encode.j1 kq l0 x4_9 (x4_1.length : Int) = some (r1, r2)) ∧ Aside0 (kq ≤ k1) ∧ Aside0 (Kd.R (Kd.int .u8) 5 wc w.heap.size (fun _ => True) v4 x4_9) ∧ Aside0 (Below w.heap.size w wc))
          case first =>
            have H := HC10.out
            clear HC10
            by_cases c12 : (x4_1.length : Int) > 0
            · rw [if_pos c12] at H
              have c12b0 : decide (0 < (x4_1.length : Int)) = true := decide_eq_true c12
              have c12b1 : decide (0 < x4_1.length) = true := decide_eq_true (by omega)
              have c12b2 : 0 < x4_1.length := by omega
              clear c12
              (first | rw [c12b0] | (simp only [i64_w, i32_w]; rw [c12b0]) | skip)
              by_cases c13 : x4_1.length < 140737488355328
              · rw [if_pos c13] at H
                have LMc13 := Aside0.mk c13
                clear c13
                obtain ⟨y169, hy169⟩ : ∃ y_ : List Int, y_ = (x4_1 ++ [45]) := ⟨_, rfl⟩
                replace H : (portcullisref05_Encode.j1 k1 l0 y169 (x4_1.length : Int)) = some (r1, r2) := by first | (rw [hy169]; with_reducible exact H) | (have H2_ := (Option.bind_some _ _).symm.trans H; rw [hy169]; with_reducible exact H2_) | (have H2_ := (Option.bind_some _ _).symm.trans H; with_reducible exact H2_) | with_reducible exact H | (rw [hy169]; exact H) | exact H
                have Ny169 := Aside0.mk hy169
                clear hy169
                have H' := Aside0.mk H
                clear H
                go_wp2_with (first | ((with_reducible refine gate_builtin (b := .append) (xs := #[.tmp 49, .tmp 50]) rfl ?_); at_builtin; refine Kd.R_append (Kd.int .u8) (w0 := w) w.heap.size rfl (.tmp 49) (.tmp 50) 34 5 (.int .u8 0) 1 rfl Try.underlying34 info5 rfl (by decide) (by omega) (.slice Ao11 x4_1.length co11) x4_1 45 [.int .u8 45] (fun _ => True) (fun _ => False) rfl rfl ?aP (fun _ hk => hk.elim) ?aF ?aO ?aB ?aS ?aL ?_; (case aP => exact rfl); (case aB => exact (by repeat (first | (with_reducible first | exact HB.out | apply below_alloc | apply pw_below_drewN | apply below_drew1) | exact HB.out))); (case aF => exact (fun _ _ => trivial)); (case aO => exact (by (with_reducible repeat (first | apply Kd.R_alloc | apply Kd.R_drewN | apply Kd.R_drew)); exact HO_4.out)); (case aS => exact (below_size (by repeat (first | (with_reducible first | exact HB.out | apply below_alloc | apply pw_below_drewN | apply below_drew1) | exact HB.out)))); (case aL => have := LMc13.out; omega); intro v170 w14 ho hb hg hat; rw [← Ny169.out] at ho; have n0_ := Aside0.mk (hb); have n1_ := Aside0.mk (ho); clear HB; clear HO_4; have HB := n0_; have HO171 := n1_; clear n0_ n1_; clear ho hb hg hat))
                go_meet
                case rel => exact ⟨_, (y169), H', ⟨by have := HK1.out; first | omega | exact Nat.le_refl _⟩, ⟨by (with_reducible repeat (first | apply Kd.R_alloc | apply Kd.R_drewN | apply Kd.R_drew)); exact HO171.out⟩, ⟨by repeat (first | (with_reducible first | exact HB.out | apply below_alloc | apply pw_below_drewN | apply below_drew1) | exact HB.out)⟩⟩
              · rw [if_neg c13] at H
                exact absurd H (by simp)
            · rw [if_neg c12] at H
              have c12b0 : decide (0 < (x4_1.length : Int)) = false := decide_eq_false c12
              have c12b1 : decide (0 < x4_1.length) = false := decide_eq_false (by omega)
              have c12b2 : x4_1.length ≤ 0 := by omega
              clear c12
              (first | rw [c12b0] | (simp only [i64_w, i32_w]; rw [c12b0]) | skip)
              have H' := Aside0.mk H
              clear H
              go_wp2
              go_meet
              case rel => exact ⟨_, (x4_1), H', ⟨by have := HK1.out; first | omega | exact Nat.le_refl _⟩, ⟨by (with_reducible repeat (first | apply Kd.R_alloc | apply Kd.R_drewN | apply Kd.R_drew)); exact HO_4.out⟩, ⟨by repeat (first | (with_reducible first | exact HB.out | apply below_alloc | apply pw_below_drewN | apply below_drew1) | exact HB.out)⟩⟩
          case rest =>
            clear HC10
            try clear c1
            try clear p1
            try clear q1
            try clear hx1
            try clear c2
            try clear c2b0
            try clear c2b1
            try clear c2b2
            try clear p2
            try clear c3
            try clear c3b0
            try clear c4
            try clear c4b0
            try clear c6
            try clear p6
            try clear c7
            try clear c7b0
            try clear c8
            try clear c10
            try clear c12
            try clear c12b0
            try clear c12b1
            try clear c12b2
            try clear c13
            try clear hx162_0
            try clear hx164_0
            try clear hx165_0
            try clear p162
            try clear p164
            try clear p165
            try clear p2
            try clear q162
            try clear q164
            try clear q165
            obtain ⟨kq, x4_9, HA, HJ9, HO_4, HB⟩ := hcut
            cases kq with
            | zero => exact absurd HA.out (by simp [portcullisref05_Encode.j1])
            | succ kj9 =>
              have H := HA.out
              clear HA
              simp only [portcullisref05_Encode.j1] at H
              have H' := Aside0.mk H
              clear H
              go_wp2
              go_loopg [4, 7, 8, 9, 10] kj9 (fun kq v4 v7 v8 v9 v10 w' => ∃ (x4_3 : List Int) (x7_3 : Int) (x8_3 : Int) (x9_3 : Int) (x10_3 : Int), v7 = .int .i32 x7_3 ∧ v8 = .int .i64 x8_3 ∧ v9 = .int .i64 x9_3 ∧ v10 = .int .i64 x10_3 ∧ Aside0 (portcullisref05_Encode.l1 kq l0 x4_3 (x4_1.length : Int) x7_3 x8_3 x9_3 x10_3 = some (r1, r2)) ∧ Aside0 (kq ≤ kj9) ∧ Aside0 (Kd.R (Kd.int .u8) 5 w' w.heap.size (fun _ => True) v4 x4_3) ∧ Aside0 (Below w.heap.size w w'))
              case atStart => exact ⟨(x4_9), (128), (0), (72), ((x4_1.length : Int)), (by first | rfl | (simp; done) | (simp [*]; done)), (by first | rfl | (simp; done) | (simp [*]; done)), (by first | rfl | (simp; done) | (simp [*]; done)), (by first | rfl | (simp; done) | (simp [*]; done)), H', ⟨Nat.le_refl _⟩, ⟨by (with_reducible repeat (first | apply Kd.R_alloc | apply Kd.R_drewN | apply Kd.R_drew)); exact HO_4.out⟩, ⟨by repeat (first | (with_reducible first | exact HB.out | apply below_alloc | apply pw_below_drewN | apply below_drew1) | exact HB.out)⟩⟩
              case round =>
                clear H'
                try clear c1
                try clear p1
                try clear q1
                try clear hx1
                try clear c2
                try clear c2b0
                try clear c2b1
                try clear c2b2
                try clear p2
                try clear c3
                try clear c3b0
                try clear c4
                try clear c4b0
                try clear c6
                try clear p6
                try clear c7
                try clear c7b0
                try clear c8
                try clear c10
                try clear c12
                try clear c12b0
                try clear c12b1
                try clear c12b2
                try clear c13
                try clear hx162_0
                try clear hx164_0
                try clear hx165_0
                try clear p1
                try clear p162
                try clear p164
                try clear p165
                try clear p2
                try clear p6
                try clear q1
                try clear q162
                try clear q164
                try clear q165
                obtain ⟨x4_3, x7_3, x8_3, x9_3, x10_3, rfl, rfl, rfl, rfl, HA, HK3, HO_4, HB⟩ := hrel
                cases gk with
                | zero => exact absurd HA.out (by simp [portcullisref05_Encode.l1])
                | succ k3 =>
                  have H := HA.out
                  clear HA
                  simp only [portcullisref05_Encode.l1] at H
                  by_cases c15 : x10_3 < (l0.length : Int)
                  · rw [if_pos c15] at H
                    have c15b0 : decide (x10_3 < (l0.length : Int)) = true := decide_eq_true c15
                    clear c15
                    have H' := Aside0.mk H
                    clear H
                    go_wp2
                    go_loopg [11, 12] k3 (fun kq v11 v12 w' => ∃ (x11_4 : Int) (x12_4 : Int), v11 = .int .i32 x11_4 ∧ v12 = .int .i64 x12_4 ∧ Aside0 (portcullisref05_Encode.l2 kq l0 x4_3 (x4_1.length : Int) x7_3 x8_3 x9_3 x10_3 x11_4 x12_4 = some (r1, r2)) ∧ Aside0 (kq ≤ k3) ∧ Aside0 (Kd.R (Kd.int .u8) 5 w' w.heap.size (fun _ => True) u4 x4_3) ∧ Aside0 (Below w.heap.size w w'))
                    case atStart => exact ⟨(1114112), (0), (by first | rfl | (simp; done) | (simp [*]; done)), (by first | rfl | (simp; done) | (simp [*]; done)), H', ⟨Nat.le_refl _⟩, ⟨by (with_reducible repeat (first | apply Kd.R_alloc | apply Kd.R_drewN | apply Kd.R_drew)); exact HO_4.out⟩, ⟨by repeat (first | (with_reducible first | exact HB.out | apply below_alloc | apply pw_below_drewN | apply below_drew1) | exact HB.out)⟩⟩
                    case round =>
                      clear H'
                      try clear c1
                      try clear p1
                      try clear q1
                      try clear hx1
                      try clear c2
                      try clear c2b0
                      try clear c2b1
                      try clear c2b2
                      try clear p2
                      try clear c3
                      try clear c3b0
                      try clear c4
                      try clear c4b0
                      try clear c6
                      try clear p6
                      try clear c7
                      try clear c7b0
                      try clear c8
                      try clear c10
                      try clear c12
                      try clear c12b0
                      try clear c12b1
                      try clear c12b2
                      try clear c13
                      try clear c15
                      try clear c15b0
                      try clear hx162_0
                      try clear hx164_0
                      try clear hx165_0
                      try clear p1
                      try clear p162
                      try clear p164
                      try clear p165
                      try clear p2
                      try clear p6
                      try clear q1
                      try clear q162
                      try clear q164
                      try clear q165
                      obtain ⟨x11_4, x12_4, rfl, rfl, HA, HK4, HO_4, HB⟩ := hrel
                      cases gk with
                      | zero => exact absurd HA.out (by simp [portcullisref05_Encode.l2])
                      | succ k4 =>
                        have H := HA.out
                        clear HA
                        simp only [portcullisref05_Encode.l2] at H
                        by_cases c16 : x12_4 < (l0.length : Int)
                        · rw [if_pos c16] at H
                          have c16b0 : decide (x12_4 < (l0.length : Int)) = true := decide_eq_true c16
                          clear c16
                          by_cases c17 : 0 ≤ x12_4
                          · rw [if_pos c17] at H
                            have c17b0 : decide (0 ≤ x12_4) = true := decide_eq_true c17
                            clear c17
                            by_cases c18 : (rd l0 x12_4) ≥ x7_3
                            · rw [if_pos c18] at H
                              have c18b0 : decide (x7_3 ≤ (rd l0 x12_4)) = true := decide_eq_true c18
                              clear c18
                              by_cases c19 : (rd l0 x12_4) < x11_4
                              · rw [if_pos c19] at H
                                have c19b0 : decide ((rd l0 x12_4) < x11_4) = true := decide_eq_true c19
                                clear c19
                                have H' := Aside0.mk H
                                clear H
                                have p172 : 0 ≤ (x12_4 : Int) := of_decide_eq_true (by first | (with_reducible assumption) | assumption)
                                have q172 : x12_4 < (l0.length : Int) := of_decide_eq_true (by first | (with_reducible assumption) | assumption)
                                obtain ⟨ad172, e172, hx172_0⟩ := Kd.at_int HR0.out x12_4 p172 q172
                                cases e172
                                replace hx172_0 := (HB.out.cell (World.block_lt_of_cell? w _ hx172_0)).trans hx172_0
                                replace p172 := eq_true p172
                                replace q172 := eq_true q172
                                have p173 : 0 ≤ (x12_4 : Int) := of_decide_eq_true (by first | (with_reducible assumption) | assumption)
                                have q173 : x12_4 < (l0.length : Int) := of_decide_eq_true (by first | (with_reducible assumption) | assumption)
                                obtain ⟨ad173, e173, hx173_0⟩ := Kd.at_int HR0.out x12_4 p173 q173
                                obtain rfl : ad172 = ad173 := (by injection e173)
                                replace hx173_0 := (HB.out.cell (World.block_lt_of_cell? w _ hx173_0)).trans hx173_0
                                replace p173 := eq_true p173
                                replace q173 := eq_true q173
                                have p174 : 0 ≤ (x12_4 : Int) := of_decide_eq_true (by first | (with_reducible assumption) | assumption)
                                have q174 : x12_4 < (l0.length : Int) := of_decide_eq_true (by first | (with_reducible assumption) | assumption)
                                obtain ⟨ad174, e174, hx174_0⟩ := Kd.at_int HR0.out x12_4 p174 q174
                                obtain rfl : ad172 = ad174 := (by injection e174)
                                replace hx174_0 := (HB.out.cell (World.block_lt_of_cell? w _ hx174_0)).trans hx174_0
                                replace p174 := eq_true p174
                                replace q174 := eq_true q174
                                go_wp2
                                go_roundg k4
                                case measure => have := HK1.out; have := HJ9.out; have := HK3.out; have := HK4.out; omega
                                case rel => exact ⟨(rd l0 x12_4), (wrap64 (x12_4 + 1)), (by first | rfl | (simp; done) | (simp [*]; done)), (by first | rfl | (simp; done) | (simp [*]; done)), H', ⟨by have := HK1.out; have := HJ9.out; have := HK3.out; have := HK4.out; omega⟩, ⟨by (with_reducible repeat (first | apply Kd.R_alloc | apply Kd.R_drewN | apply Kd.R_drew)); exact HO_4.out⟩, ⟨by repeat (first | (with_reducible first | exact HB.out | apply below_alloc | apply pw_below_drewN | apply below_drew1) | exact HB.out)⟩⟩
                              · rw [if_neg c19] at H
                                have c19b0 : decide ((rd l0 x12_4) < x11_4) = false := decide_eq_false c19
                                clear c19
                                have H' := Aside0.mk H
                                clear H
                                have p172 : 0 ≤ (x12_4 : Int) := of_decide_eq_true (by first | (with_reducible assumption) | assumption)
                                have q172 : x12_4 < (l0.length : Int) := of_decide_eq_true (by first | (with_reducible assumption) | assumption)
                                obtain ⟨ad172, e172, hx172_0⟩ := Kd.at_int HR0.out x12_4 p172 q172
                                cases e172
                                replace hx172_0 := (HB.out.cell (World.block_lt_of_cell? w _ hx172_0)).trans hx172_0
                                replace p172 := eq_true p172
                                replace q172 := eq_true q172
                                have p173 : 0 ≤ (x12_4 : Int) := of_decide_eq_true (by first | (with_reducible assumption) | assumption)
                                have q173 : x12_4 < (l0.length : Int) := of_decide_eq_true (by first | (with_reducible assumption) | assumption)
                                obtain ⟨ad173, e173, hx173_0⟩ := Kd.at_int HR0.out x12_4 p173 q173
                                obtain rfl : ad172 = ad173 := (by injection e173)
                                replace hx173_0 := (HB.out.cell (World.block_lt_of_cell? w _ hx173_0)).trans hx173_0
                                replace p173 := eq_true p173
                                replace q173 := eq_true q173
                                go_wp2
                                go_roundg k4
                                case measure => have := HK1.out; have := HJ9.out; have := HK3.out; have := HK4.out; omega
                                case rel => exact ⟨(x11_4), (wrap64 (x12_4 + 1)), (by first | rfl | (simp; done) | (simp [*]; done)), (by first | rfl | (simp; done) | (simp [*]; done)), H', ⟨by have := HK1.out; have := HJ9.out; have := HK3.out; have := HK4.out; omega⟩, ⟨by (with_reducible repeat (first | apply Kd.R_alloc | apply Kd.R_drewN | apply Kd.R_drew)); exact HO_4.out⟩, ⟨by repeat (first | (with_reducible first | exact HB.out | apply below_alloc | apply pw_below_drewN | apply below_drew1) | exact HB.out)⟩⟩
                            · rw [if_neg c18] at H
                              have c18b0 : decide (x7_3 ≤ (rd l0 x12_4)) = false := decide_eq_false c18
                              clear c18
                              have H' := Aside0.mk H
                              clear H
                              have p172 : 0 ≤ (x12_4 : Int) := of_decide_eq_true (by first | (with_reducible assumption) | assumption)
                              have q172 : x12_4 < (l0.length : Int) := of_decide_eq_true (by first | (with_reducible assumption) | assumption)
                              obtain ⟨ad172, e172, hx172_0⟩ := Kd.at_int HR0.out x12_4 p172 q172
                              cases e172
                              replace hx172_0 := (HB.out.cell (World.block_lt_of_cell? w _ hx172_0)).trans hx172_0
                              replace p172 := eq_true p172
                              replace q172 := eq_true q172
                              go_wp2
                              go_roundg k4
                              case measure => have := HK1.out; have := HJ9.out; have := HK3.out; have := HK4.out; omega
                              case rel => exact ⟨(x11_4), (wrap64 (x12_4 + 1)), (by first | rfl | (simp; done) | (simp [*]; done)), (by first | rfl | (simp; done) | (simp [*]; done)), H', ⟨by have := HK1.out; have := HJ9.out; have := HK3.out; have := HK4.out; omega⟩, ⟨by (with_reducible repeat (first | apply Kd.R_alloc | apply Kd.R_drewN | apply Kd.R_drew)); exact HO_4.out⟩, ⟨by repeat (first | (with_reducible first | exact HB.out | apply below_alloc | apply pw_below_drewN | apply below_drew1) | exact HB.out)⟩⟩
                          · rw [if_neg c17] at H
                            exact absurd H (by simp)
                        · rw [if_neg c16] at H
                          have c16b0 : decide (x12_4 < (l0.length : Int)) = false := decide_eq_false c16
                          clear c16
                          have H' := Aside0.mk H
                          clear H
                          go_wp2
                          go_loopg [4, 8, 9, 10, 13] k4 (fun kq v4 v8 v9 v10 v13 w' => ∃ (x4_5 : List Int) (x8_5 : Int) (x9_5 : Int) (x10_5 : Int) (x13_5 : Int), v8 = .int .i64 x8_5 ∧ v9 = .int .i64 x9_5 ∧ v10 = .int .i64 x10_5 ∧ v13 = .int .i64 x13_5 ∧ Aside0 (portcullisref05_Encode.l3 kq l0 x4_5 (x4_1.length : Int) x11_4 x8_5 x9_5 x10_5 x13_5 = some (r1, r2)) ∧ Aside0 (kq ≤ k4) ∧ Aside0 (Kd.R (Kd.int .u8) 5 w' w.heap.size (fun _ => True) v4 x4_5) ∧ Aside0 (Below w.heap.size w w'))
                          case atStart => exact ⟨(x4_3), (wrap64 (x8_3 + (wrap64 ((wrap64 (wrap32 (x11_4 - x7_3))) * (wrap64 (x10_3 + 1)))))), (x9_3), (x10_3), (0), (by first | rfl | (simp; done) | (simp [*]; done)), (by first | rfl | (simp; done) | (simp [*]; done)), (by first | rfl | (simp; done) | (simp [*]; done)), (by first | rfl | (simp; done) | (simp [*]; done)), H', ⟨Nat.le_refl _⟩, ⟨by (with_reducible repeat (first | apply Kd.R_alloc | apply Kd.R_drewN | apply Kd.R_drew)); exact HO_4.out⟩, ⟨by repeat (first | (with_reducible first | exact HB.out | apply below_alloc | apply pw_below_drewN | apply below_drew1) | exact HB.out)⟩⟩
                          case round =>
                            clear H'
                            try clear c1
                            try clear p1
                            try clear q1
                            try clear hx1
                            try clear c2
                            try clear c2b0
                            try clear c2b1
                            try clear c2b2
                            try clear p2
                            try clear c3
                            try clear c3b0
                            try clear p3
                            try clear c4
                            try clear c4b0
                            try clear c6
                            try clear p6
                            try clear c7
                            try clear c7b0
                            try clear c8
                            try clear c10
                            try clear c12
                            try clear c12b0
                            try clear c12b1
                            try clear c12b2
                            try clear c13
                            try clear c15
                            try clear c15b0
                            try clear c16
                            try clear c16b0
                            try clear p16
                            try clear q16
                            try clear hx16
                            try clear c17
                            try clear c17b0
                            try clear p17
                            try clear q17
                            try clear hx17
                            try clear c18
                            try clear c18b0
                            try clear c19
                            try clear c19b0
                            try clear hx162_0
                            try clear hx164_0
                            try clear hx165_0
                            try clear hx172_0
                            try clear hx173_0
                            try clear hx174_0
                            try clear p1
                            try clear p162
                            try clear p164
                            try clear p165
                            try clear p172
                            try clear p173
                            try clear p174
                            try clear p2
                            try clear p6
                            try clear q1
                            try clear q162
                            try clear q164
                            try clear q165
                            try clear q172
                            try clear q173
                            try clear q174
                            obtain ⟨x4_5, x8_5, x9_5, x10_5, x13_5, rfl, rfl, rfl, rfl, HA, HK5, HO_4, HB⟩ := hrel
                            cases gk with
                            | zero => exact absurd HA.out (by simp [portcullisref05_Encode.l3])
                            | succ k5 =>
                              have H := HA.out
                              clear HA
                              simp only [portcullisref05_Encode.l3] at H
                              by_cases c20 : x13_5 < (l0.length : Int)
                              · rw [if_pos c20] at H
                                have c20b0 : decide (x13_5 < (l0.length : Int)) = true := decide_eq_true c20
                                clear c20
                                by_cases c21 : 0 ≤ x13_5
                                · rw [if_pos c21] at H
                                  have c21b0 : decide (0 ≤ x13_5) = true := decide_eq_true c21
                                  clear c21
                                  have HC22 := Aside0.mk H
                                  clear H
                                  have p175 : 0 ≤ (x13_5 : Int) := of_decide_eq_true (by first | (with_reducible assumption) | assumption)
                                  have q175 : x13_5 < (l0.length : Int) := of_decide_eq_true (by first | (with_reducible assumption) | assumption)
                                  obtain ⟨ad175, e175, hx175_0⟩ := Kd.at_int HR0.out x13_5 p175 q175
                                  cases e175
                                  replace hx175_0 := (HB.out.cell (World.block_lt_of_cell? w _ hx175_0)).trans hx175_0
                                  replace p175 := eq_true p175
                                  replace q175 := eq_true q175
                                  go_upto_if 102 with (fail)
                                  go_cut [8] (fun v8 wc => ∃ (kq : Nat) (x8_21 : Int), v8 = .int .i64 x8_21 ∧ Aside0 (portcullisref05_Encode.j5 kq l0 x4_5 (x4_1.length : Int) x11_4 x8_21 x9_5 x10_5 x13_5 = some (r1, r2)) ∧ Aside0 (kq ≤ k5) ∧ Aside0 (Kd.R (Kd.int .u8) 5 wc w.heap.size (fun _ => True) u4 x4_5) ∧ Aside0 (Below w.heap.size w wc))
                                  case first =>
                                    have H := HC22.out
                                    clear HC22
                                    by_cases c23 : (rd l0 x13_5) < x11_4
                                    · rw [if_pos c23] at H
                                      have c23b0 : decide ((rd l0 x13_5) < x11_4) = true := decide_eq_true c23
                                      clear c23
                                      (first | rw [c23b0] | (simp only [i64_w, i32_w]; rw [c23b0]) | skip)
                                      have H' := Aside0.mk H
                                      clear H
                                      go_wp2
                                      go_meet
                                      case rel => exact ⟨_, (wrap64 (x8_5 + 1)), (by first | rfl | (simp; done) | (simp [*]; done)), H', ⟨by have := HK1.out; have := HJ9.out; have := HK3.out; have := HK4.out; have := HK5.out; first | omega | exact Nat.le_refl _⟩, ⟨by (with_reducible repeat (first | apply Kd.R_alloc | apply Kd.R_drewN | apply Kd.R_drew)); exact HO_4.out⟩, ⟨by repeat (first | (with_reducible first | exact HB.out | apply below_alloc | apply pw_below_drewN | apply below_drew1) | exact HB.out)⟩⟩
                                    · rw [if_neg c23] at H
                                      have c23b0 : decide ((rd l0 x13_5) < x11_4) = false := decide_eq_false c23
                                      clear c23
                                      (first | rw [c23b0] | (simp only [i64_w, i32_w]; rw [c23b0]) | skip)
                                      have H' := Aside0.mk H
                                      clear H
                                      go_wp2
                                      go_meet
                                      case rel => exact ⟨_, (x8_5), (by first | rfl | (simp; done) | (simp [*]; done)), H', ⟨by have := HK1.out; have := HJ9.out; have := HK3.out; have := HK4.out; have := HK5.out; first | omega | exact Nat.le_refl _⟩, ⟨by (with_reducible repeat (first | apply Kd.R_alloc | apply Kd.R_drewN | apply Kd.R_drew)); exact HO_4.out⟩, ⟨by repeat (first | (with_reducible first | exact HB.out | apply below_alloc | apply pw_below_drewN | apply below_drew1) | exact HB.out)⟩⟩
                                  case rest =>
                                    clear HC22
                                    try clear c1
                                    try clear p1
                                    try clear q1
                                    try clear hx1
                                    try clear c2
                                    try clear c2b0
                                    try clear c2b1
                                    try clear c2b2
                                    try clear p2
                                    try clear c3
                                    try clear c3b0
                                    try clear p3
                                    try clear c4
                                    try clear c4b0
                                    try clear c6
                                    try clear p6
                                    try clear c7
                                    try clear c7b0
                                    try clear c8
                                    try clear c10
                                    try clear c12
                                    try clear c12b0
                                    try clear c12b1
                                    try clear c12b2
                                    try clear c13
                                    try clear c15
                                    try clear c15b0
                                    try clear c16
                                    try clear c16b0
                                    try clear p16
                                    try clear q16
                                    try clear hx16
                                    try clear c17
                                    try clear c17b0
                                    try clear p17
                                    try clear q17
                                    try clear hx17
                                    try clear c18
                                    try clear c18b0
                                    try clear c19
                                    try clear c19b0
                                    try clear c20
                                    try clear c20b0
                                    try clear c21
                                    try clear c21b0
                                    try clear c23
                                    try clear c23b0
                                    try clear hx162_0
                                    try clear hx164_0
                                    try clear hx165_0
                                    try clear hx172_0
                                    try clear hx173_0
                                    try clear hx174_0
                                    try clear hx175_0
                                    try clear p1
                                    try clear p16
                                    try clear p162
                                    try clear p164
                                    try clear p165
                                    try clear p17
                                    try clear p172
                                    try clear p173
                                    try clear p174
                                    try clear p175
                                    try clear p2
                                    try clear p3
                                    try clear p6
                                    try clear q1
                                    try clear q16
                                    try clear q162
                                    try clear q164
                                    try clear q165
                                    try clear q17
                                    try clear q172
                                    try clear q173
                                    try clear q174
                                    try clear q175
                                    obtain ⟨kq, x8_21, rfl, HA, HJ21, HO_4, HB⟩ := hcut
                                    cases kq with
                                    | zero => exact absurd HA.out (by simp [portcullisref05_Encode.j5])
                                    | succ kj21 =>
                                      have H := HA.out
                                      clear HA
                                      simp only [portcullisref05_Encode.j5] at H
                                      by_cases c24 : 0 ≤ x13_5
                                      · rw [if_pos c24] at H
                                        have c24b0 : decide (0 ≤ x13_5) = true := decide_eq_true c24
                                        clear c24
                                        by_cases c25 : x13_5 < (l0.length : Int)
                                        · rw [if_pos c25] at H
                                          have c25b0 : decide (x13_5 < (l0.length : Int)) = true := decide_eq_true c25
                                          clear c25
                                          by_cases c26 : (rd l0 x13_5) = x11_4
                                          · rw [if_pos c26] at H
                                            have c26b0 : ((rd l0 x13_5) == x11_4) = true := beq_iff_eq.mpr c26
                                            have c26b1 : ((rd l0 x13_5) != x11_4) = false := bne_eq_false_iff_eq.mpr c26
                                            clear c26
                                            have H' := Aside0.mk H
                                            clear H
                                            have p176 : 0 ≤ (x13_5 : Int) := of_decide_eq_true (by first | (with_reducible assumption) | assumption)
                                            have q176 : x13_5 < (l0.length : Int) := of_decide_eq_true (by first | (with_reducible assumption) | assumption)
                                            obtain ⟨ad176, e176, hx176_0⟩ := Kd.at_int HR0.out x13_5 p176 q176
                                            obtain rfl : ad175 = ad176 := (by injection e176)
                                            replace hx176_0 := (HB.out.cell (World.block_lt_of_cell? w _ hx176_0)).trans hx176_0
                                            replace p176 := eq_true p176
                                            replace q176 := eq_true q176
                                            go_wp2
                                            go_loopg [4, 14, 15] kj21 (fun kq v4 v14 v15 w' => ∃ (x4_7 : List Int) (x14_7 : Int) (x15_7 : Int), v14 = .int .i64 x14_7 ∧ v15 = .int .i64 x15_7 ∧ Aside0 (portcullisref05_Encode.l4 kq l0 x4_7 (x4_1.length : Int) x11_4 x8_21 x9_5 x10_5 x13_5 x14_7 x15_7 = some (r1, r2)) ∧ Aside0 (kq ≤ kj21) ∧ Aside0 (Kd.R (Kd.int .u8) 5 w' w.heap.size (fun _ => True) v4 x4_7) ∧ Aside0 (Below w.heap.size w w'))
                                            case atStart => exact ⟨(x4_5), (x8_21), (36), (by first | rfl | (simp; done) | (simp [*]; done)), (by first | rfl | (simp; done) | (simp [*]; done)), H', ⟨Nat.le_refl _⟩, ⟨by (with_reducible repeat (first | apply Kd.R_alloc | apply Kd.R_drewN | apply Kd.R_drew)); exact HO_4.out⟩, ⟨by repeat (first | (with_reducible first | exact HB.out | apply below_alloc | apply pw_below_drewN | apply below_drew1) | exact HB.out)⟩⟩
                                            case round =>
                                              clear H'
                                              try clear c1
                                              try clear p1
                                              try clear q1
                                              try clear hx1
                                              try clear c2
                                              try clear c2b0
                                              try clear c2b1
                                              try clear c2b2
                                              try clear p2
                                              try clear c3
                                              try clear c3b0
                                              try clear p3
                                              try clear c4
                                              try clear c4b0
                                              try clear c6
                                              try clear p6
                                              try clear c7
                                              try clear c7b0
                                              try clear c8
                                              try clear c10
                                              try clear c12
                                              try clear c12b0
                                              try clear c12b1
                                              try clear c12b2
                                              try clear c13
                                              try clear c15
                                              try clear c15b0
                                              try clear c16
                                              try clear c16b0
                                              try clear p16
                                              try clear q16
                                              try clear hx16
                                              try clear c17
                                              try clear c17b0
                                              try clear p17
                                              try clear q17
                                              try clear hx17
                                              try clear c18
                                              try clear c18b0
                                              try clear c19
                                              try clear c19b0
                                              try clear c20
                                              try clear c20b0
                                              try clear c21
                                              try clear c21b0
                                              try clear c23
                                              try clear c23b0
                                              try clear c24
                                              try clear c24b0
                                              try clear c25
                                              try clear c25b0
                                              try clear c26
                                              try clear c26b0
                                              try clear c26b1
                                              try clear hx162_0
                                              try clear hx164_0
                                              try clear hx165_0
                                              try clear hx172_0
                                              try clear hx173_0
                                              try clear hx174_0
                                              try clear hx175_0
                                              try clear hx176_0
                                              try clear p1
                                              try clear p16
                                              try clear p162
                                              try clear p164
                                              try clear p165
                                              try clear p17
                                              try clear p172
                                              try clear p173
                                              try clear p174
                                              try clear p175
                                              try clear p176
                                              try clear p2
                                              try clear p3
                                              try clear p6
                                              try clear q1
                                              try clear q16
                                              try clear q162
                                              try clear q164
                                              try clear q165
                                              try clear q17
                                              try clear q172
                                              try clear q173
                                              try clear q174
                                              try clear q175
                                              try clear q176
                                              obtain ⟨x4_7, x14_7, x15_7, rfl, rfl, HA, HK7, HO_4, HB⟩ := hrel
                                              cases gk with
                                              | zero => exact absurd HA.out (by simp [portcullisref05_Encode.l4])
                                              | succ k7 =>
                                                have H := HA.out
                                                clear HA
                                                simp only [portcullisref05_Encode.l4] at H
                                                replace H := Option.bind_eq_some_iff.mp H
                                                obtain ⟨t177, A270, H⟩ := H
                                                replace H : (if x14_7 < t177 then ((portcullisref05_letter.f x14_7).bind fun t178 => (if x4_7.length < 140737488355328 then ((portcullisref05_Adapt.f k7 x8_21 (wrap64 (x10_5 + 1)) (x10_5 == (x4_1.length : Int))).bind fun t182 => (portcullisref05_Encode.l3 k7 l0 (x4_7 ++ [t178]) (x4_1.length : Int) x11_4 0 t182 (wrap64 (x10_5 + 1)) (wrap64 (x13_5 + 1)))) else (none))) else (if (wrap64 (36 - t177)) = 0 then (none) else ((portcullisref05_letter.f (wrap64 (t177 + (Int.tmod (wrap64 (x14_7 - t177)) (wrap64 (36 - t177)))))).bind fun t183 => (if x4_7.length < 140737488355328 then (portcullisref05_Encode.l4 k7 l0 (x4_7 ++ [t183]) (x4_1.length : Int) x11_4 x8_21 x9_5 x10_5 x13_5 (wrap64 (Int.tdiv (wrap64 (x14_7 - t177)) (wrap64 (36 - t177)))) (wrap64 (x15_7 + 36))) else (none))))) = some (r1, r2) := H
                                                have A27 := Aside0.mk A270
                                                clear A270
                                                by_cases c28 : x14_7 < t177
                                                · rw [if_pos c28] at H
                                                  have c28b0 : decide (x14_7 < t177) = true := decide_eq_true c28
                                                  clear c28
                                                  replace H := Option.bind_eq_some_iff.mp H
                                                  obtain ⟨t178, A290, H⟩ := H
                                                  replace H : (if x4_7.length < 140737488355328 then ((portcullisref05_Adapt.f k7 x8_21 (wrap64 (x10_5 + 1)) (x10_5 == (x4_1.length : Int))).bind fun t182 => (portcullisref05_Encode.l3 k7 l0 (x4_7 ++ [t178]) (x4_1.length : Int) x11_4 0 t182 (wrap64 (x10_5 + 1)) (wrap64 (x13_5 + 1)))) else (none)) = some (r1, r2) := H
                                                  have A29 := Aside0.mk A290
                                                  clear A290
                                                  by_cases c30 : x4_7.length < 140737488355328
                                                  · rw [if_pos c30] at H
                                                    have LMc30 := Aside0.mk c30
                                                    clear c30
                                                    obtain ⟨y179, hy179⟩ : ∃ y_ : List Int, y_ = (x4_7 ++ [t178]) := ⟨_, rfl⟩
                                                    replace H : ((portcullisref05_Adapt.f k7 x8_21 (wrap64 (x10_5 + 1)) (x10_5 == (x4_1.length : Int))).bind fun t182 => (portcullisref05_Encode.l3 k7 l0 y179 (x4_1.length : Int) x11_4 0 t182 (wrap64 (x10_5 + 1)) (wrap64 (x13_5 + 1)))) = some (r1, r2) := by first | (rw [hy179]; with_reducible exact H) | (have H2_ := (Option.bind_some _ _).symm.trans H; rw [hy179]; with_reducible exact H2_) | (have H2_ := (Option.bind_some _ _).symm.trans H; with_reducible exact H2_) | with_reducible exact H | (rw [hy179]; exact H) | exact H
                                                    have Ny179 := Aside0.mk hy179
                                                    clear hy179
                                                    replace H := Option.bind_eq_some_iff.mp H
                                                    obtain ⟨t182, A310, H⟩ := H
                                                    replace H : (portcullisref05_Encode.l3 k7 l0 y179 (x4_1.length : Int) x11_4 0 t182 (wrap64 (x10_5 + 1)) (wrap64 (x13_5 + 1))) = some (r1, r2) := H
                                                    have A31 := Aside0.mk A310
                                                    clear A310
                                                    have H' := Aside0.mk H
                                                    clear H
                                                    go_wp2_with (first | ((with_reducible refine gate_callee (f := 22) rfl ?_); refine goesL_ (some 116) rfl rfl Try.func22 (by kernel_rfl) rfl #[.int .i64 x15_7, .int .i64 x9_5] rfl (by (try simp only [List.map_toArray, List.map_cons, List.map_nil]); first | done | rfl | (simp only [List.length_drop, List.length_take]; rfl)) ?_; (with_reducible refine (portcullisref05_threshold.calls x15_7 x9_5 t177 _ A27.out).mono ?_); rintro e w' ⟨rfl, ⟨nd, rfl⟩⟩; refine ⟨_, rfl, ?_⟩) | ((with_reducible refine gate_callee (f := 23) rfl ?_); refine goesL_ (some 122) rfl rfl Try.func23 (by kernel_rfl) rfl #[.int .i64 x14_7] rfl (by (try simp only [List.map_toArray, List.map_cons, List.map_nil]); first | done | rfl | (simp only [List.length_drop, List.length_take]; rfl)) ?_; (with_reducible refine (portcullisref05_letter.calls x14_7 t178 _ A29.out).mono ?_); rintro e w' ⟨rfl, ⟨nd, rfl⟩⟩; refine ⟨_, rfl, ?_⟩) | ((with_reducible refine gate_builtin (b := .append) (xs := #[.tmp 120, .tmp 123]) rfl ?_); at_builtin; refine Kd.R_append (Kd.int .u8) (w0 := w) w.heap.size rfl (.tmp 120) (.tmp 123) 34 5 (.int .u8 0) 1 rfl Try.underlying34 info5 rfl (by decide) (by omega) u4 x4_7 t178 [.int .u8 t178] (fun _ => True) (fun _ => False) rfl rfl ?aP (fun _ hk => hk.elim) ?aF ?aO ?aB ?aS ?aL ?_; (case aP => exact rfl); (case aB => exact (by repeat (first | (with_reducible first | exact HB.out | apply below_alloc | apply pw_below_drewN | apply below_drew1) | exact HB.out))); (case aF => exact (fun _ _ => trivial)); (case aO => exact (by (with_reducible repeat (first | apply Kd.R_alloc | apply Kd.R_drewN | apply Kd.R_drew)); exact HO_4.out)); (case aS => exact (below_size (by repeat (first | (with_reducible first | exact HB.out | apply below_alloc | apply pw_below_drewN | apply below_drew1) | exact HB.out)))); (case aL => have := LMc30.out; omega); intro v180 w32 ho hb hg hat; rw [← Ny179.out] at ho; have n0_ := Aside0.mk (hb); have n1_ := Aside0.mk (ho); clear HB; clear HO_4; have HB := n0_; have HO181 := n1_; clear n0_ n1_; clear ho hb hg hat) | ((with_reducible refine gate_callee (f := 12) rfl ?_); refine goesL_ (some 149) rfl rfl Try.func12 (by kernel_rfl) rfl #[.int .i64 x8_21, .int .i64 (wrap64 (x10_5 + 1)), .bool (x10_5 == (x4_1.length : Int))] rfl (by (try simp only [List.map_toArray, List.map_cons, List.map_nil]); first | done | rfl | (simp only [List.length_drop, List.length_take]; rfl)) ?_; (with_reducible refine (portcullisref05_Adapt.calls k7 x8_21 (wrap64 (x10_5 + 1)) (x10_5 == (x4_1.length : Int)) t182 _ A31.out).mono ?_); rintro e w' ⟨rfl, ⟨nd, rfl⟩⟩; refine ⟨_, rfl, ?_⟩))
                                                    go_roundg k7
                                                    case measure => have := HK1.out; have := HJ9.out; have := HK3.out; have := HK4.out; have := HK5.out; have := HJ21.out; have := HK7.out; omega
                                                    case rel => exact ⟨(y179), (0), (t182), (wrap64 (x10_5 + 1)), (wrap64 (x13_5 + 1)), (by first | rfl | (simp; done) | (simp [*]; done)), (by first | rfl | (simp; done) | (simp [*]; done)), (by first | rfl | (simp; done) | (simp [*]; done)), (by first | rfl | (simp; done) | (simp [*]; done)), H', ⟨by have := HK1.out; have := HJ9.out; have := HK3.out; have := HK4.out; have := HK5.out; have := HJ21.out; have := HK7.out; omega⟩, ⟨by (with_reducible repeat (first | apply Kd.R_alloc | apply Kd.R_drewN | apply Kd.R_drew)); exact HO181.out⟩, ⟨by repeat (first | (with_reducible first | exact HB.out | apply below_alloc | apply pw_below_drewN | apply below_drew1) | exact HB.out)⟩⟩
                                                  · rw [if_neg c30] at H
                                                    exact absurd H (by simp)
                                                · rw [if_neg c28] at H
                                                  have c28b0 : decide (x14_7 < t177) = false := decide_eq_false c28
                                                  clear c28
                                                  by_cases c33 : (wrap64 (36 - t177)) = 0
                                                  · rw [if_pos c33] at H
                                                    exact absurd H (by simp)
                                                  · rw [if_neg c33] at H
                                                    have c33b0 : ((wrap64 (36 - t177)) == 0) = false := beq_eq_false_iff_ne.mpr c33
                                                    have c33b1 : ((wrap64 (36 - t177)) != 0) = true := bne_iff_ne.mpr c33
                                                    replace H := Option.bind_eq_some_iff.mp H
                                                    obtain ⟨t183, A340, H⟩ := H
                                                    replace H : (if x4_7.length < 140737488355328 then (portcullisref05_Encode.l4 k7 l0 (x4_7 ++ [t183]) (x4_1.length : Int) x11_4 x8_21 x9_5 x10_5 x13_5 (wrap64 (Int.tdiv (wrap64 (x14_7 - t177)) (wrap64 (36 - t177)))) (wrap64 (x15_7 + 36))) else (none)) = some (r1, r2) := H
                                                    have A34 := Aside0.mk A340
                                                    clear A340
                                                    by_cases c35 : x4_7.length < 140737488355328
                                                    · rw [if_pos c35] at H
                                                      have LMc35 := Aside0.mk c35
                                                      clear c35
                                                      obtain ⟨y184, hy184⟩ : ∃ y_ : List Int, y_ = (x4_7 ++ [t183]) := ⟨_, rfl⟩
                                                      replace H : (portcullisref05_Encode.l4 k7 l0 y184 (x4_1.length : Int) x11_4 x8_21 x9_5 x10_5 x13_5 (wrap64 (Int.tdiv (wrap64 (x14_7 - t177)) (wrap64 (36 - t177)))) (wrap64 (x15_7 + 36))) = some (r1, r2) := by first | (rw [hy184]; with_reducible exact H) | (have H2_ := (Option.bind_some _ _).symm.trans H; rw [hy184]; with_reducible exact H2_) | (have H2_ := (Option.bind_some _ _).symm.trans H; with_reducible exact H2_) | with_reducible exact H | (rw [hy184]; exact H) | exact H
                                                      have Ny184 := Aside0.mk hy184
                                                      clear hy184
                                                      have H' := Aside0.mk H
                                                      clear H
                                                      go_wp2_with (first | ((with_reducible refine gate_callee (f := 22) rfl ?_); refine goesL_ (some 116) rfl rfl Try.func22 (by kernel_rfl) rfl #[.int .i64 x15_7, .int .i64 x9_5] rfl (by (try simp only [List.map_toArray, List.map_cons, List.map_nil]); first | done | rfl | (simp only [List.length_drop, List.length_take]; rfl)) ?_; (with_reducible refine (portcullisref05_threshold.calls x15_7 x9_5 t177 _ A27.out).mono ?_); rintro e w' ⟨rfl, ⟨nd, rfl⟩⟩; refine ⟨_, rfl, ?_⟩) | ((with_reducible refine gate_callee (f := 23) rfl ?_); refine goesL_ (some 134) rfl rfl Try.func23 (by kernel_rfl) rfl #[.int .i64 (wrap64 (t177 + (Int.tmod (wrap64 (x14_7 - t177)) (wrap64 (36 - t177)))))] rfl (by (try simp only [List.map_toArray, List.map_cons, List.map_nil]); first | done | rfl | (simp only [List.length_drop, List.length_take]; rfl)) ?_; (with_reducible refine (portcullisref05_letter.calls (wrap64 (t177 + (Int.tmod (wrap64 (x14_7 - t177)) (wrap64 (36 - t177))))) t183 _ A34.out).mono ?_); rintro e w' ⟨rfl, ⟨nd, rfl⟩⟩; refine ⟨_, rfl, ?_⟩) | ((with_reducible refine gate_builtin (b := .append) (xs := #[.tmp 125, .tmp 135]) rfl ?_); at_builtin; refine Kd.R_append (Kd.int .u8) (w0 := w) w.heap.size rfl (.tmp 125) (.tmp 135) 34 5 (.int .u8 0) 1 rfl Try.underlying34 info5 rfl (by decide) (by omega) u4 x4_7 t183 [.int .u8 t183] (fun _ => True) (fun _ => False) rfl rfl ?aP (fun _ hk => hk.elim) ?aF ?aO ?aB ?aS ?aL ?_; (case aP => exact rfl); (case aB => exact (by repeat (first | (with_reducible first | exact HB.out | apply below_alloc | apply pw_below_drewN | apply below_drew1) | exact HB.out))); (case aF => exact (fun _ _ => trivial)); (case aO => exact (by (with_reducible repeat (first | apply Kd.R_alloc | apply Kd.R_drewN | apply Kd.R_drew)); exact HO_4.out)); (case aS => exact (below_size (by repeat (first | (with_reducible first | exact HB.out | apply below_alloc | apply pw_below_drewN | apply below_drew1) | exact HB.out)))); (case aL => have := LMc35.out; omega); intro v185 w36 ho hb hg hat; rw [← Ny184.out] at ho; have n0_ := Aside0.mk (hb); have n1_ := Aside0.mk (ho); clear HB; clear HO_4; have HB := n0_; have HO186 := n1_; clear n0_ n1_; clear ho hb hg hat))
                                                      go_roundg k7
                                                      case measure => have := HK1.out; have := HJ9.out; have := HK3.out; have := HK4.out; have := HK5.out; have := HJ21.out; have := HK7.out; omega
                                                      case rel => exact ⟨(y184), (wrap64 (Int.tdiv (wrap64 (x14_7 - t177)) (wrap64 (36 - t177)))), (wrap64 (x15_7 + 36)), (by first | rfl | (simp; done) | (simp [*]; done)), (by first | rfl | (simp; done) | (simp [*]; done)), H', ⟨by have := HK1.out; have := HJ9.out; have := HK3.out; have := HK4.out; have := HK5.out; have := HJ21.out; have := HK7.out; omega⟩, ⟨by (with_reducible repeat (first | apply Kd.R_alloc | apply Kd.R_drewN | apply Kd.R_drew)); exact HO186.out⟩, ⟨by repeat (first | (with_reducible first | exact HB.out | apply below_alloc | apply pw_below_drewN | apply below_drew1) | exact HB.out)⟩⟩
                                                    · rw [if_neg c35] at H
                                                      exact absurd H (by simp)
                                          · rw [if_neg c26] at H
                                            have c26b0 : ((rd l0 x13_5) == x11_4) = false := beq_eq_false_iff_ne.mpr c26
                                            have c26b1 : ((rd l0 x13_5) != x11_4) = true := bne_iff_ne.mpr c26
                                            have H' := Aside0.mk H
                                            clear H
                                            have p176 : 0 ≤ (x13_5 : Int) := of_decide_eq_true (by first | (with_reducible assumption) | assumption)
                                            have q176 : x13_5 < (l0.length : Int) := of_decide_eq_true (by first | (with_reducible assumption) | assumption)
                                            obtain ⟨ad176, e176, hx176_0⟩ := Kd.at_int HR0.out x13_5 p176 q176
                                            obtain rfl : ad175 = ad176 := (by injection e176)
                                            replace hx176_0 := (HB.out.cell (World.block_lt_of_cell? w _ hx176_0)).trans hx176_0
                                            replace p176 := eq_true p176
                                            replace q176 := eq_true q176
                                            go_wp2
                                            go_roundg kj21
                                            case measure => have := HK1.out; have := HJ9.out; have := HK3.out; have := HK4.out; have := HK5.out; have := HJ21.out; omega
                                            case rel => exact ⟨(x4_5), (x8_21), (x9_5), (x10_5), (wrap64 (x13_5 + 1)), (by first | rfl | (simp; done) | (simp [*]; done)), (by first | rfl | (simp; done) | (simp [*]; done)), (by first | rfl | (simp; done) | (simp [*]; done)), (by first | rfl | (simp; done) | (simp [*]; done)), H', ⟨by have := HK1.out; have := HJ9.out; have := HK3.out; have := HK4.out; have := HK5.out; have := HJ21.out; omega⟩, ⟨by (with_reducible repeat (first | apply Kd.R_alloc | apply Kd.R_drewN | apply Kd.R_drew)); exact HO_4.out⟩, ⟨by repeat (first | (with_reducible first | exact HB.out | apply below_alloc | apply pw_below_drewN | apply below_drew1) | exact HB.out)⟩⟩
                                        · rw [if_neg c25] at H
                                          exact absurd H (by simp)
                                      · rw [if_neg c24] at H
                                        exact absurd H (by simp)
                                · rw [if_neg c21] at H
                                  exact absurd H (by simp)
                              · rw [if_neg c20] at H
                                have c20b0 : decide (x13_5 < (l0.length : Int)) = false := decide_eq_false c20
                                clear c20
                                have H' := Aside0.mk H
                                clear H
                                go_wp2
                                go_roundg k5
                                case measure => have := HK1.out; have := HJ9.out; have := HK3.out; have := HK4.out; have := HK5.out; omega
                                case rel => exact ⟨(x4_5), (wrap32 (x11_4 + 1)), (wrap64 (x8_5 + 1)), (x9_5), (x10_5), (by first | rfl | (simp; done) | (simp [*]; done)), (by first | rfl | (simp; done) | (simp [*]; done)), (by first | rfl | (simp; done) | (simp [*]; done)), (by first | rfl | (simp; done) | (simp [*]; done)), H', ⟨by have := HK1.out; have := HJ9.out; have := HK3.out; have := HK4.out; have := HK5.out; omega⟩, ⟨by (with_reducible repeat (first | apply Kd.R_alloc | apply Kd.R_drewN | apply Kd.R_drew)); exact HO_4.out⟩, ⟨by repeat (first | (with_reducible first | exact HB.out | apply below_alloc | apply pw_below_drewN | apply below_drew1) | exact HB.out)⟩⟩
                  · rw [if_neg c15] at H
                    have c15b0 : decide (x10_3 < (l0.length : Int)) = false := decide_eq_false c15
                    clear c15
                    by_cases c37 : (x4_3.length : Int) > 63
                    · rw [if_pos c37] at H
                      have c37b0 : decide (63 < (x4_3.length : Int)) = true := decide_eq_true c37
                      have c37b1 : decide (63 < x4_3.length) = true := decide_eq_true (by omega)
                      have c37b2 : 63 < x4_3.length := by omega
                      clear c37
                      simp only [Option.some.injEq, Prod.mk.injEq] at H
                      obtain ⟨rfl, rfl⟩ := H
                      obtain ⟨Ao38, co38, eo38⟩ := Kd.R_slice HO_4.out
                      subst eo38
                      go_wp2
                      go_ret2
                      exact ⟨by first | rfl | (simp [errW_none, errW_some] <;> rfl) | (simp [*, errW_none, errW_some] <;> rfl), by repeat (first | (with_reducible first | exact HB.out | apply below_alloc | apply pw_below_drewN | apply below_drew1) | exact HB.out)⟩
                    · rw [if_neg c37] at H
                      have c37b0 : decide (63 < (x4_3.length : Int)) = false := decide_eq_false c37
                      have c37b1 : decide (63 < x4_3.length) = false := decide_eq_false (by omega)
                      have c37b2 : x4_3.length ≤ 63 := by omega
                      clear c37
                      simp only [Option.some.injEq, Prod.mk.injEq] at H
                      obtain ⟨rfl, rfl⟩ := H
                      obtain ⟨Ao39, co39, eo39⟩ := Kd.R_slice HO_4.out
                      subst eo39
                      have hcv40 := own_string (P := Try.prog) Try.underlying34 Try.underlying5 Try.underlying9 (Kd.own_of_R HO_4.out)
                      go_wp2
                      go_ret2
                      exact ⟨by first | rfl | (simp [errW_none, errW_some] <;> rfl) | (simp [*, errW_none, errW_some] <;> rfl), by repeat (first | (with_reducible first | exact HB.out | apply below_alloc | apply pw_below_drewN | apply below_drew1) | exact HB.out)⟩

end Go.Proofs.Ytmhlagakimckjaa.Q

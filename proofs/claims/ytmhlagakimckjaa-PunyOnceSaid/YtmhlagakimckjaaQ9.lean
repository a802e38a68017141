-- Written by this session's program (a turned print).
import Derived.Test.YtmhlagakimckjaaQ0
import Derived.Test.YtmhlagakimckjaaQ5
import Derived.Test.YtmhlagakimckjaaQ6
import Derived.Test.YtmhlagakimckjaaQ8
namespace Go.Proofs.Ytmhlagakimckjaa.Q
open Go.RowKit Go.Proofs.YtmhlagakimckjaaW.PrintWords Go.Proofs.YtmhlagakimckjaaW.PrintLast Go.Proofs.YtmhlagakimckjaaW.PrintMore
attribute [local go_sem] max2_int min2_int max_two min_two max_three min_three max_four min_four   -- for this text's walks alone
set_option linter.unusedVariables false
set_option linter.unusedSimpArgs false

/-! ### portcullisref05_Decode: function 14 -/
mutual
def portcullisref05_Decode.l0 : Nat → ByteArray → Int → Int → Option (List Int × Int)
  | 0, _, _, _ => none
  | k + 1, x0, x4, x5 => if x5 < (x0.size : Int) then (if 0 ≤ x5 then (if (bt x0 x5) ≥ 128 then (some (([] : List Int), 8)) else (if (bt x0 x5) = 45 then (portcullisref05_Decode.l0 k x0 x5 (wrap64 (x5 + 1))) else (portcullisref05_Decode.l0 k x0 x4 (wrap64 (x5 + 1))))) else (none)) else (portcullisref05_Decode.l1 k x0 x4 ([] : List Int) 0)
def portcullisref05_Decode.l1 : Nat → ByteArray → Int → List Int → Int → Option (List Int × Int)
  | 0, _, _, _, _ => none
  | k + 1, x0, x4, x6, x7 => if x7 < x4 then (if 0 ≤ x7 then (if x7 < (x0.size : Int) then (if x6.length < 35184372088832 then (portcullisref05_Decode.l1 k x0 x4 (x6 ++ [wrap32 (bt x0 x7)]) (wrap64 (x7 + 1))) else (none)) else (none)) else (none)) else (if x4 > 0 then (portcullisref05_Decode.j2 k x0 x6 (wrap64 (x4 + 1))) else (portcullisref05_Decode.j2 k x0 x6 x4))
def portcullisref05_Decode.j2 : Nat → ByteArray → List Int → Int → Option (List Int × Int)
  | 0, _, _, _ => none
  | k + 1, x0, x6, x8 => portcullisref05_Decode.l2 k x0 x6 x8 128 0 72
def portcullisref05_Decode.l2 : Nat → ByteArray → List Int → Int → Int → Int → Int → Option (List Int × Int)
  | 0, _, _, _, _, _, _ => none
  | k + 1, x0, x6, x8, x9, x10, x11 => if x8 < (x0.size : Int) then (portcullisref05_Decode.l3 k x0 x6 x8 x9 x10 x11 x10 1 36) else (some (x6, 0))
def portcullisref05_Decode.l3 : Nat → ByteArray → List Int → Int → Int → Int → Int → Int → Int → Int → Option (List Int × Int)
  | 0, _, _, _, _, _, _, _, _, _ => none
  | k + 1, x0, x6, x8, x9, x10, x11, x12, x13, x14 => if x8 = (x0.size : Int) then (some (([] : List Int), 8)) else (if 0 ≤ x8 then (if x8 < (x0.size : Int) then ((portcullisref05_digit.f k (bt x0 x8)).bind fun t202 => (if t202 < 0 then (some (([] : List Int), 8)) else (if (wrap64 (x10 + (wrap64 (t202 * x13)))) > 2147483647 then (some (([] : List Int), 8)) else ((portcullisref05_threshold.f x14 x11).bind fun t203 => (if t202 < t203 then ((portcullisref05_Adapt.f k (wrap64 ((wrap64 (x10 + (wrap64 (t202 * x13)))) - x12)) (wrap64 ((x6.length : Int) + 1)) (x12 == 0)).bind fun t204 => (if (wrap64 ((x6.length : Int) + 1)) = 0 then (none) else (if (wrap64 (x9 + (wrap64 (Int.tdiv (wrap64 (x10 + (wrap64 (t202 * x13)))) (wrap64 ((x6.length : Int) + 1)))))) > 1114111 then (some (([] : List Int), 8)) else ((portcullisref01_Scalar.f (wrap32 (wrap64 (x9 + (wrap64 (Int.tdiv (wrap64 (x10 + (wrap64 (t202 * x13)))) (wrap64 ((x6.length : Int) + 1)))))))).bind fun t205 => (if t205 = true then (if 0 ≤ (Int.tmod (wrap64 (x10 + (wrap64 (t202 * x13)))) (wrap64 ((x6.length : Int) + 1))) then (if (Int.tmod (wrap64 (x10 + (wrap64 (t202 * x13)))) (wrap64 ((x6.length : Int) + 1))) ≤ (x6.length : Int) then ((some (x6.take ((Int.tmod (wrap64 (x10 + (wrap64 (t202 * x13)))) (wrap64 ((x6.length : Int) + 1))) : Int).toNat : List Int)).bind fun y206 => (if ([] : List Int).length + y206.length < 35184372088832 then ((some (([] : List Int) ++ y206 : List Int)).bind fun y210 => (if y210.length < 35184372088832 then ((some (y210 ++ [wrap32 (wrap64 (x9 + (wrap64 (Int.tdiv (wrap64 (x10 + (wrap64 (t202 * x13)))) (wrap64 ((x6.length : Int) + 1))))))] : List Int)).bind fun y213 => ((some (x6.drop ((Int.tmod (wrap64 (x10 + (wrap64 (t202 * x13)))) (wrap64 ((x6.length : Int) + 1))) : Int).toNat : List Int)).bind fun y216 => (if y213.length + y216.length < 35184372088832 then (portcullisref05_Decode.l2 k x0 (y213 ++ y216) (wrap64 (x8 + 1)) (wrap64 (x9 + (wrap64 (Int.tdiv (wrap64 (x10 + (wrap64 (t202 * x13)))) (wrap64 ((x6.length : Int) + 1)))))) (wrap64 ((Int.tmod (wrap64 (x10 + (wrap64 (t202 * x13)))) (wrap64 ((x6.length : Int) + 1))) + 1)) t204) else (none)))) else (none))) else (none))) else (none)) else (none)) else (some (([] : List Int), 8))))))) else (if (wrap64 (x13 * (wrap64 (36 - t203)))) > 2147483647 then (some (([] : List Int), 8)) else (portcullisref05_Decode.l3 k x0 x6 (wrap64 (x8 + 1)) x9 (wrap64 (x10 + (wrap64 (t202 * x13)))) x11 x12 (wrap64 (x13 * (wrap64 (36 - t203)))) (wrap64 (x14 + 36))))))))) else (none)) else (none))
end
def portcullisref05_Decode.f (k : Nat) (a0 : ByteArray) : Option (List Int × Int) := if (a0.size : Int) > 63 then (some (([] : List Int), 4)) else (portcullisref05_Decode.l0 k a0 0 0)
theorem portcullisref05_Decode.mono_l : ∀ k, (∀ y0 y1 y2, LeO (portcullisref05_Decode.l0 k y0 y1 y2) (portcullisref05_Decode.l0 (k + 1) y0 y1 y2)) ∧ (∀ y0 y1 y2 y3, LeO (portcullisref05_Decode.l1 k y0 y1 y2 y3) (portcullisref05_Decode.l1 (k + 1) y0 y1 y2 y3)) ∧ (∀ y0 y1 y2, LeO (portcullisref05_Decode.j2 k y0 y1 y2) (portcullisref05_Decode.j2 (k + 1) y0 y1 y2)) ∧ (∀ y0 y1 y2 y3 y4 y5, LeO (portcullisref05_Decode.l2 k y0 y1 y2 y3 y4 y5) (portcullisref05_Decode.l2 (k + 1) y0 y1 y2 y3 y4 y5)) ∧ (∀ y0 y1 y2 y3 y4 y5 y6 y7 y8, LeO (portcullisref05_Decode.l3 k y0 y1 y2 y3 y4 y5 y6 y7 y8) (portcullisref05_Decode.l3 (k + 1) y0 y1 y2 y3 y4 y5 y6 y7 y8))
  | 0 => ⟨fun _ _ _ r h => by simp [portcullisref05_Decode.l0] at h, fun _ _ _ _ r h => by simp [portcullisref05_Decode.l1] at h, fun _ _ _ r h => by simp [portcullisref05_Decode.j2] at h, fun _ _ _ _ _ _ r h => by simp [portcullisref05_Decode.l2] at h, fun _ _ _ _ _ _ _ _ _ r h => by simp [portcullisref05_Decode.l3] at h⟩
  | k + 1 => by
    obtain ⟨ih0, ih1, ih2, ih3, ih4⟩ := portcullisref05_Decode.mono_l k
    refine ⟨?_, ?_, ?_, ?_, ?_⟩
    · intro y0 y1 y2
      unfold portcullisref05_Decode.l0
      repeat' first
      | (with_reducible exact ih0 _ _ _)
      | (with_reducible exact ih1 _ _ _ _)
      | (with_reducible exact ih2 _ _ _)
      | (with_reducible exact ih3 _ _ _ _ _ _)
      | (with_reducible exact ih4 _ _ _ _ _ _ _ _ _)
      | (with_reducible exact portcullisref05_Adapt.mono _ _ _ _)
      | (with_reducible exact portcullisref05_digit.mono _ _)
      | (with_reducible exact LeO.refl _)
      | (with_reducible exact LeO.none _)
      | (with_reducible refine LeO.ite ?_ ?_)
      | (with_reducible refine LeO.bind ?_ (fun _ => ?_))
      | exact ih0 _ _ _
      | exact ih1 _ _ _ _
      | exact ih2 _ _ _
      | exact ih3 _ _ _ _ _ _
      | exact ih4 _ _ _ _ _ _ _ _ _
      | exact portcullisref05_Adapt.mono _ _ _ _
      | exact portcullisref05_digit.mono _ _
      | exact LeO.none _
      | refine LeO.ite ?_ ?_
      | refine LeO.bind ?_ (fun _ => ?_)
    · intro y0 y1 y2 y3
      unfold portcullisref05_Decode.l1
      repeat' first
      | (with_reducible exact ih0 _ _ _)
      | (with_reducible exact ih1 _ _ _ _)
      | (with_reducible exact ih2 _ _ _)
      | (with_reducible exact ih3 _ _ _ _ _ _)
      | (with_reducible exact ih4 _ _ _ _ _ _ _ _ _)
      | (with_reducible exact portcullisref05_Adapt.mono _ _ _ _)
      | (with_reducible exact portcullisref05_digit.mono _ _)
      | (with_reducible exact LeO.refl _)
      | (with_reducible exact LeO.none _)
      | (with_reducible refine LeO.ite ?_ ?_)
      | (with_reducible refine LeO.bind ?_ (fun _ => ?_))
      | exact ih0 _ _ _
      | exact ih1 _ _ _ _
      | exact ih2 _ _ _
      | exact ih3 _ _ _ _ _ _
      | exact ih4 _ _ _ _ _ _ _ _ _
      | exact portcullisref05_Adapt.mono _ _ _ _
      | exact portcullisref05_digit.mono _ _
      | exact LeO.none _
      | refine LeO.ite ?_ ?_
      | refine LeO.bind ?_ (fun _ => ?_)
    · intro y0 y1 y2
      unfold portcullisref05_Decode.j2
      repeat' first
      | (with_reducible exact ih0 _ _ _)
      | (with_reducible exact ih1 _ _ _ _)
      | (with_reducible exact ih2 _ _ _)
      | (with_reducible exact ih3 _ _ _ _ _ _)
      | (with_reducible exact ih4 _ _ _ _ _ _ _ _ _)
      | (with_reducible exact portcullisref05_Adapt.mono _ _ _ _)
      | (with_reducible exact portcullisref05_digit.mono _ _)
      | (with_reducible exact LeO.refl _)
      | (with_reducible exact LeO.none _)
      | (with_reducible refine LeO.ite ?_ ?_)
      | (with_reducible refine LeO.bind ?_ (fun _ => ?_))
      | exact ih0 _ _ _
      | exact ih1 _ _ _ _
      | exact ih2 _ _ _
      | exact ih3 _ _ _ _ _ _
      | exact ih4 _ _ _ _ _ _ _ _ _
      | exact portcullisref05_Adapt.mono _ _ _ _
      | exact portcullisref05_digit.mono _ _
      | exact LeO.none _
      | refine LeO.ite ?_ ?_
      | refine LeO.bind ?_ (fun _ => ?_)
    · intro y0 y1 y2 y3 y4 y5
      unfold portcullisref05_Decode.l2
      repeat' first
      | (with_reducible exact ih0 _ _ _)
      | (with_reducible exact ih1 _ _ _ _)
      | (with_reducible exact ih2 _ _ _)
      | (with_reducible exact ih3 _ _ _ _ _ _)
      | (with_reducible exact ih4 _ _ _ _ _ _ _ _ _)
      | (with_reducible exact portcullisref05_Adapt.mono _ _ _ _)
      | (with_reducible exact portcullisref05_digit.mono _ _)
      | (with_reducible exact LeO.refl _)
      | (with_reducible exact LeO.none _)
      | (with_reducible refine LeO.ite ?_ ?_)
      | (with_reducible refine LeO.bind ?_ (fun _ => ?_))
      | exact ih0 _ _ _
      | exact ih1 _ _ _ _
      | exact ih2 _ _ _
      | exact ih3 _ _ _ _ _ _
      | exact ih4 _ _ _ _ _ _ _ _ _
      | exact portcullisref05_Adapt.mono _ _ _ _
      | exact portcullisref05_digit.mono _ _
      | exact LeO.none _
      | refine LeO.ite ?_ ?_
      | refine LeO.bind ?_ (fun _ => ?_)
    · intro y0 y1 y2 y3 y4 y5 y6 y7 y8
      unfold portcullisref05_Decode.l3
      repeat' first
      | (with_reducible exact ih0 _ _ _)
      | (with_reducible exact ih1 _ _ _ _)
      | (with_reducible exact ih2 _ _ _)
      | (with_reducible exact ih3 _ _ _ _ _ _)
      | (with_reducible exact ih4 _ _ _ _ _ _ _ _ _)
      | (with_reducible exact portcullisref05_Adapt.mono _ _ _ _)
      | (with_reducible exact portcullisref05_digit.mono _ _)
      | (with_reducible exact LeO.refl _)
      | (with_reducible exact LeO.none _)
      | (with_reducible refine LeO.ite ?_ ?_)
      | (with_reducible refine LeO.bind ?_ (fun _ => ?_))
      | exact ih0 _ _ _
      | exact ih1 _ _ _ _
      | exact ih2 _ _ _
      | exact ih3 _ _ _ _ _ _
      | exact ih4 _ _ _ _ _ _ _ _ _
      | exact portcullisref05_Adapt.mono _ _ _ _
      | exact portcullisref05_digit.mono _ _
      | exact LeO.none _
      | refine LeO.ite ?_ ?_
      | refine LeO.bind ?_ (fun _ => ?_)
theorem portcullisref05_Decode.mono : ∀ a0 k, LeO (portcullisref05_Decode.f k a0) (portcullisref05_Decode.f (k + 1) a0) := by
  intro a0 k
  obtain ⟨ih0, ih1, ih2, ih3, ih4⟩ := portcullisref05_Decode.mono_l k
  unfold portcullisref05_Decode.f
  repeat' first
      | (with_reducible exact ih0 _ _ _)
      | (with_reducible exact ih1 _ _ _ _)
      | (with_reducible exact ih2 _ _ _)
      | (with_reducible exact ih3 _ _ _ _ _ _)
      | (with_reducible exact ih4 _ _ _ _ _ _ _ _ _)
      | (with_reducible exact portcullisref05_Adapt.mono _ _ _ _)
      | (with_reducible exact portcullisref05_digit.mono _ _)
      | (with_reducible exact LeO.refl _)
      | (with_reducible exact LeO.none _)
      | (with_reducible refine LeO.ite ?_ ?_)
      | (with_reducible refine LeO.bind ?_ (fun _ => ?_))
      | exact ih0 _ _ _
      | exact ih1 _ _ _ _
      | exact ih2 _ _ _
      | exact ih3 _ _ _ _ _ _
      | exact ih4 _ _ _ _ _ _ _ _ _
      | exact portcullisref05_Adapt.mono _ _ _ _
      | exact portcullisref05_digit.mono _ _
      | exact LeO.none _
      | refine LeO.ite ?_ ?_
      | refine LeO.bind ?_ (fun _ => ?_)
set_option maxHeartbeats 8000000 in
set_option maxRecDepth 100000 in
theorem portcullisref05_Decode.calls (k : Nat) (a0 : ByteArray) (r1 : List Int) (r2 : Int) (w : World) (h : portcullisref05_Decode.f k a0 = some (r1, r2)) :
    Calls Try.prog 14 #[.string a0] w fun e w' => ∃ v0_ : Value, e = .returned (.tuple #[v0_, .int .i64 r2]) ∧ Kd.R (Kd.int .i32) 21 w' w.heap.size (fun _ => True) v0_ r1 ∧ Below w.heap.size w w' := by
  have HB := Aside0.mk (Below.refl w.heap.size w)
  have H : (if (a0.size : Int) > 63 then (some (([] : List Int), 4)) else (portcullisref05_Decode.l0 k a0 0 0)) = some (r1, r2) := h
  clear h
  by_cases c2 : (a0.size : Int) > 63
  · rw [if_pos c2] at H
    have c2b0 : decide (63 < (a0.size : Int)) = true := decide_eq_true c2
    have c2b1 : decide (63 < a0.size) = true := decide_eq_true (by omega)
    have c2b2 : 63 < a0.size := by omega
    clear c2
    simp only [Option.some.injEq, Prod.mk.injEq] at H
    obtain ⟨rfl, rfl⟩ := H
    go_enter Try.func14, Try.ntmps14
    go_wp2
    go_ret2
    exact ⟨_, by first | rfl | (simp [errW_none, errW_some] <;> rfl) | (simp [*, errW_none, errW_some] <;> rfl), by first | exact Kd.R_nil _ _ _ _ _ | exact Kd.N_nil _ _ _ _ _ | exact Kd.V_nil _ _ _ _ _ | exact Kd.Q_nil _ _ _ _ _ | exact Kd.S_nil _ _ _ _ _, by repeat (first | (with_reducible first | exact HB.out | apply below_alloc | apply pw_below_drewN | apply below_drew1) | exact HB.out)⟩
  · rw [if_neg c2] at H
    have c2b0 : decide (63 < (a0.size : Int)) = false := decide_eq_false c2
    have c2b1 : decide (63 < a0.size) = false := decide_eq_false (by omega)
    have c2b2 : a0.size ≤ 63 := by omega
    clear c2
    have H' := Aside0.mk H
    clear H
    go_enter Try.func14, Try.ntmps14
    go_wp2
    go_loopg [4, 5] k (fun kq v4 v5 w' => ∃ (x4_1 : Int) (x5_1 : Int), v4 = .int .i64 x4_1 ∧ v5 = .int .i64 x5_1 ∧ Aside0 (portcullisref05_Decode.l0 kq a0 x4_1 x5_1 = some (r1, r2)) ∧ Aside0 (kq ≤ k) ∧ Aside0 (Below w.heap.size w w'))
    case atStart => exact ⟨(0), (0), (by first | rfl | (simp; done) | (simp [*]; done)), (by first | rfl | (simp; done) | (simp [*]; done)), H', ⟨Nat.le_refl _⟩, ⟨by repeat (first | (with_reducible first | exact HB.out | apply below_alloc | apply pw_below_drewN | apply below_drew1) | exact HB.out)⟩⟩
    case round =>
      clear H'
      try clear c1
      try clear c2
      try clear c2b0
      try clear c2b1
      try clear c2b2
      try clear p2
      obtain ⟨x4_1, x5_1, rfl, rfl, HA, HK1, HB⟩ := hrel
      cases gk with
      | zero => exact absurd HA.out (by simp [portcullisref05_Decode.l0])
      | succ k1 =>
        have H := HA.out
        clear HA
        simp only [portcullisref05_Decode.l0] at H
        by_cases c3 : x5_1 < (a0.size : Int)
        · rw [if_pos c3] at H
          have c3b0 : decide (x5_1 < (a0.size : Int)) = true := decide_eq_true c3
          clear c3
          by_cases c4 : 0 ≤ x5_1
          · rw [if_pos c4] at H
            have c4b0 : decide (0 ≤ x5_1) = true := decide_eq_true c4
            clear c4
            by_cases c6 : (bt a0 x5_1) ≥ 128
            · rw [if_pos c6] at H
              have c6b0 : decide (128 ≤ (bt a0 x5_1)) = true := decide_eq_true c6
              clear c6
              simp only [Option.some.injEq, Prod.mk.injEq] at H
              obtain ⟨rfl, rfl⟩ := H
              have p5 : 0 ≤ (x5_1 : Int) := of_decide_eq_true (by first | (with_reducible assumption) | assumption)
              have q5 : x5_1 < (a0.size : Int) := of_decide_eq_true (by first | (with_reducible assumption) | assumption)
              have hx5 := bt_at a0 x5_1
              replace p5 := eq_true p5
              replace q5 := eq_true q5
              go_wp2
              go_ret2
              exact ⟨_, by first | rfl | (simp [errW_none, errW_some] <;> rfl) | (simp [*, errW_none, errW_some] <;> rfl), by first | exact Kd.R_nil _ _ _ _ _ | exact Kd.N_nil _ _ _ _ _ | exact Kd.V_nil _ _ _ _ _ | exact Kd.Q_nil _ _ _ _ _ | exact Kd.S_nil _ _ _ _ _, by repeat (first | (with_reducible first | exact HB.out | apply below_alloc | apply pw_below_drewN | apply below_drew1) | exact HB.out)⟩
            · rw [if_neg c6] at H
              have c6b0 : decide (128 ≤ (bt a0 x5_1)) = false := decide_eq_false c6
              clear c6
              by_cases c8 : (bt a0 x5_1) = 45
              · rw [if_pos c8] at H
                have c8b0 : ((bt a0 x5_1) == 45) = true := beq_iff_eq.mpr c8
                have c8b1 : ((bt a0 x5_1) != 45) = false := bne_eq_false_iff_eq.mpr c8
                clear c8
                have H' := Aside0.mk H
                clear H
                have p5 : 0 ≤ (x5_1 : Int) := of_decide_eq_true (by first | (with_reducible assumption) | assumption)
                have q5 : x5_1 < (a0.size : Int) := of_decide_eq_true (by first | (with_reducible assumption) | assumption)
                have hx5 := bt_at a0 x5_1
                replace p5 := eq_true p5
                replace q5 := eq_true q5
                have p7 : 0 ≤ (x5_1 : Int) := of_decide_eq_true (by first | (with_reducible assumption) | assumption)
                have q7 : x5_1 < (a0.size : Int) := of_decide_eq_true (by first | (with_reducible assumption) | assumption)
                have hx7 := bt_at a0 x5_1
                replace p7 := eq_true p7
                replace q7 := eq_true q7
                go_wp2
                go_roundg k1
                case measure => have := HK1.out; omega
                case rel => exact ⟨(x5_1), (wrap64 (x5_1 + 1)), (by first | rfl | (simp; done) | (simp [*]; done)), (by first | rfl | (simp; done) | (simp [*]; done)), H', ⟨by have := HK1.out; omega⟩, ⟨by repeat (first | (with_reducible first | exact HB.out | apply below_alloc | apply pw_below_drewN | apply below_drew1) | exact HB.out)⟩⟩
              · rw [if_neg c8] at H
                have c8b0 : ((bt a0 x5_1) == 45) = false := beq_eq_false_iff_ne.mpr c8
                have c8b1 : ((bt a0 x5_1) != 45) = true := bne_iff_ne.mpr c8
                have H' := Aside0.mk H
                clear H
                have p5 : 0 ≤ (x5_1 : Int) := of_decide_eq_true (by first | (with_reducible assumption) | assumption)
                have q5 : x5_1 < (a0.size : Int) := of_decide_eq_true (by first | (with_reducible assumption) | assumption)
                have hx5 := bt_at a0 x5_1
                replace p5 := eq_true p5
                replace q5 := eq_true q5
                have p7 : 0 ≤ (x5_1 : Int) := of_decide_eq_true (by first | (with_reducible assumption) | assumption)
                have q7 : x5_1 < (a0.size : Int) := of_decide_eq_true (by first | (with_reducible assumption) | assumption)
                have hx7 := bt_at a0 x5_1
                replace p7 := eq_true p7
                replace q7 := eq_true q7
                go_wp2
                go_roundg k1
                case measure => have := HK1.out; omega
                case rel => exact ⟨(x4_1), (wrap64 (x5_1 + 1)), (by first | rfl | (simp; done) | (simp [*]; done)), (by first | rfl | (simp; done) | (simp [*]; done)), H', ⟨by have := HK1.out; omega⟩, ⟨by repeat (first | (with_reducible first | exact HB.out | apply below_alloc | apply pw_below_drewN | apply below_drew1) | exact HB.out)⟩⟩
          · rw [if_neg c4] at H
            exact absurd H (by simp)
        · rw [if_neg c3] at H
          have c3b0 : decide (x5_1 < (a0.size : Int)) = false := decide_eq_false c3
          clear c3
          have H' := Aside0.mk H
          clear H
          go_wp2
          go_loopg [6, 7] k1 (fun kq v6 v7 w' => ∃ (x6_2 : List Int) (x7_2 : Int), v7 = .int .i64 x7_2 ∧ Aside0 (portcullisref05_Decode.l1 kq a0 x4_1 x6_2 x7_2 = some (r1, r2)) ∧ Aside0 (kq ≤ k1) ∧ Aside0 (Kd.R (Kd.int .i32) 21 w' w.heap.size (fun _ => True) v6 x6_2) ∧ Aside0 (Below w.heap.size w w'))
          case atStart => exact ⟨(([] : List Int)), (0), (by first | rfl | (simp; done) | (simp [*]; done)), H', ⟨Nat.le_refl _⟩, ⟨by first | exact Kd.R_nil _ _ _ _ _ | exact Kd.N_nil _ _ _ _ _ | exact Kd.V_nil _ _ _ _ _ | exact Kd.Q_nil _ _ _ _ _ | exact Kd.S_nil _ _ _ _ _⟩, ⟨by repeat (first | (with_reducible first | exact HB.out | apply below_alloc | apply pw_below_drewN | apply below_drew1) | exact HB.out)⟩⟩
          case round =>
            clear H'
            try clear c1
            try clear c2
            try clear c2b0
            try clear c2b1
            try clear c2b2
            try clear p2
            try clear c3
            try clear c3b0
            try clear c4
            try clear c4b0
            try clear p5
            try clear q5
            try clear hx5
            try clear c6
            try clear c6b0
            try clear p6
            try clear p7
            try clear q7
            try clear hx7
            try clear c8
            try clear c8b0
            try clear c8b1
            try clear p2
            try clear p5
            try clear p7
            try clear q5
            try clear q7
            obtain ⟨x6_2, x7_2, rfl, HA, HK2, HO_6, HB⟩ := hrel
            cases gk with
            | zero => exact absurd HA.out (by simp [portcullisref05_Decode.l1])
            | succ k2 =>
              have H := HA.out
              clear HA
              simp only [portcullisref05_Decode.l1] at H
              by_cases c9 : x7_2 < x4_1
              · rw [if_pos c9] at H
                have c9b0 : decide (x7_2 < x4_1) = true := decide_eq_true c9
                clear c9
                by_cases c10 : 0 ≤ x7_2
                · rw [if_pos c10] at H
                  have c10b0 : decide (0 ≤ x7_2) = true := decide_eq_true c10
                  clear c10
                  by_cases c11 : x7_2 < (a0.size : Int)
                  · rw [if_pos c11] at H
                    have c11b0 : decide (x7_2 < (a0.size : Int)) = true := decide_eq_true c11
                    clear c11
                    by_cases c13 : x6_2.length < 35184372088832
                    · rw [if_pos c13] at H
                      have LMc13 := Aside0.mk c13
                      clear c13
                      obtain ⟨y199, hy199⟩ : ∃ y_ : List Int, y_ = (x6_2 ++ [wrap32 (bt a0 x7_2)]) := ⟨_, rfl⟩
                      replace H : (portcullisref05_Decode.l1 k2 a0 x4_1 y199 (wrap64 (x7_2 + 1))) = some (r1, r2) := by first | (rw [hy199]; with_reducible exact H) | (have H2_ := (Option.bind_some _ _).symm.trans H; rw [hy199]; with_reducible exact H2_) | (have H2_ := (Option.bind_some _ _).symm.trans H; with_reducible exact H2_) | with_reducible exact H | (rw [hy199]; exact H) | exact H
                      have Ny199 := Aside0.mk hy199
                      clear hy199
                      have H' := Aside0.mk H
                      clear H
                      have p12 : 0 ≤ (x7_2 : Int) := of_decide_eq_true (by first | (with_reducible assumption) | assumption)
                      have q12 : x7_2 < (a0.size : Int) := of_decide_eq_true (by first | (with_reducible assumption) | assumption)
                      have hx12 := bt_at a0 x7_2
                      replace p12 := eq_true p12
                      replace q12 := eq_true q12
                      go_wp2_with (first | ((with_reducible refine gate_builtin (b := .append) (xs := #[.tmp 42, .tmp 47]) rfl ?_); at_builtin; refine Kd.R_append (Kd.int .i32) (w0 := w) w.heap.size rfl (.tmp 42) (.tmp 47) 22 21 (.int .i32 0) 4 rfl Try.underlying22 info21 rfl (by decide) (by omega) u6 x6_2 (wrap32 (bt a0 x7_2)) [.int .i32 (wrap32 (bt a0 x7_2))] (fun _ => True) (fun _ => False) rfl rfl ?aP (fun _ hk => hk.elim) ?aF ?aO ?aB ?aS ?aL ?_; (case aP => exact rfl); (case aB => exact (by repeat (first | (with_reducible first | exact HB.out | apply below_alloc | apply pw_below_drewN | apply below_drew1) | exact HB.out))); (case aF => exact (fun _ _ => trivial)); (case aO => exact (by (with_reducible repeat (first | apply Kd.R_alloc | apply Kd.R_drewN | apply Kd.R_drew)); exact HO_6.out)); (case aS => exact (below_size (by repeat (first | (with_reducible first | exact HB.out | apply below_alloc | apply pw_below_drewN | apply below_drew1) | exact HB.out)))); (case aL => have := LMc13.out; omega); intro v200 w14 ho hb hg hat; rw [← Ny199.out] at ho; have n0_ := Aside0.mk (hb); have n1_ := Aside0.mk (ho); clear HB; clear HO_6; have HB := n0_; have HO201 := n1_; clear n0_ n1_; clear ho hb hg hat))
                      go_roundg k2
                      case measure => have := HK1.out; have := HK2.out; omega
                      case rel => exact ⟨(y199), (wrap64 (x7_2 + 1)), (by first | rfl | (simp; done) | (simp [*]; done)), H', ⟨by have := HK1.out; have := HK2.out; omega⟩, ⟨by (with_reducible repeat (first | apply Kd.R_alloc | apply Kd.R_drewN | apply Kd.R_drew)); exact HO201.out⟩, ⟨by repeat (first | (with_reducible first | exact HB.out | apply below_alloc | apply pw_below_drewN | apply below_drew1) | exact HB.out)⟩⟩
                    · rw [if_neg c13] at H
                      exact absurd H (by simp)
                  · rw [if_neg c11] at H
                    exact absurd H (by simp)
                · rw [if_neg c10] at H
                  exact absurd H (by simp)
              · rw [if_neg c9] at H
                have c9b0 : decide (x7_2 < x4_1) = false := decide_eq_false c9
                clear c9
                have HC15 := Aside0.mk H
                clear H
                go_upto_if 51 with (fail)
                go_cut [8] (fun v8 wc => ∃ (kq : Nat) (x8_14 : Int), v8 = .int .i64 x8_14 ∧ Aside0 (portcullisref05_Decode.j2 kq a0 x6_2 x8_14 = some (r1, r2)) ∧ Aside0 (kq ≤ k2) ∧ Aside0 (Kd.R (Kd.int .i32) 21 wc w.heap.size (fun _ => True) u6 x6_2) ∧ Aside0 (Below w.heap.size w wc))
                case first =>
                  have H := HC15.out
                  clear HC15
                  by_cases c16 : x4_1 > 0
                  · rw [if_pos c16] at H
                    have c16b0 : decide (0 < x4_1) = true := decide_eq_true c16
                    clear c16
                    (first | rw [c16b0] | (simp only [i64_w, i32_w]; rw [c16b0]) | skip)
                    have H' := Aside0.mk H
                    clear H
                    go_wp2
                    go_meet
                    case rel => exact ⟨_, (wrap64 (x4_1 + 1)), (by first | rfl | (simp; done) | (simp [*]; done)), H', ⟨by have := HK1.out; have := HK2.out; first | omega | exact Nat.le_refl _⟩, ⟨by (with_reducible repeat (first | apply Kd.R_alloc | apply Kd.R_drewN | apply Kd.R_drew)); exact HO_6.out⟩, ⟨by repeat (first | (with_reducible first | exact HB.out | apply below_alloc | apply pw_below_drewN | apply below_drew1) | exact HB.out)⟩⟩
                  · rw [if_neg c16] at H
                    have c16b0 : decide (0 < x4_1) = false := decide_eq_false c16
                    clear c16
                    (first | rw [c16b0] | (simp only [i64_w, i32_w]; rw [c16b0]) | skip)
                    have H' := Aside0.mk H
                    clear H
                    go_wp2
                    go_meet
                    case rel => exact ⟨_, (x4_1), (by first | rfl | (simp; done) | (simp [*]; done)), H', ⟨by have := HK1.out; have := HK2.out; first | omega | exact Nat.le_refl _⟩, ⟨by (with_reducible repeat (first | apply Kd.R_alloc | apply Kd.R_drewN | apply Kd.R_drew)); exact HO_6.out⟩, ⟨by repeat (first | (with_reducible first | exact HB.out | apply below_alloc | apply pw_below_drewN | apply below_drew1) | exact HB.out)⟩⟩
                case rest =>
                  clear HC15
                  try clear c1
                  try clear p1
                  try clear q1
                  try clear hx1
                  try clear c2
                  try clear c2b0
                  try clear c2b1
                  try clear c2b2
                  try clear p2
                  try clear c3
                  try clear c3b0
                  try clear p3
                  try clear c4
                  try clear c4b0
                  try clear p5
                  try clear q5
                  try clear hx5
                  try clear c6
                  try clear c6b0
                  try clear p6
                  try clear p7
                  try clear q7
                  try clear hx7
                  try clear c8
                  try clear c8b0
                  try clear c8b1
                  try clear c9
                  try clear c9b0
                  try clear c10
                  try clear c10b0
                  try clear c11
                  try clear c11b0
                  try clear p12
                  try clear q12
                  try clear hx12
                  try clear c13
                  try clear c14
                  try clear c16
                  try clear c16b0
                  try clear p12
                  try clear p2
                  try clear p5
                  try clear p6
                  try clear p7
                  try clear q12
                  try clear q5
                  try clear q7
                  obtain ⟨kq, x8_14, rfl, HA, HJ14, HO_6, HB⟩ := hcut
                  cases kq with
                  | zero => exact absurd HA.out (by simp [portcullisref05_Decode.j2])
                  | succ kj14 =>
                    have H := HA.out
                    clear HA
                    simp only [portcullisref05_Decode.j2] at H
                    have H' := Aside0.mk H
                    clear H
                    go_wp2
                    go_loopg [6, 8, 9, 10, 11] kj14 (fun kq v6 v8 v9 v10 v11 w' => ∃ (x6_4 : List Int) (x8_4 : Int) (x9_4 : Int) (x10_4 : Int) (x11_4 : Int), v8 = .int .i64 x8_4 ∧ v9 = .int .i64 x9_4 ∧ v10 = .int .i64 x10_4 ∧ v11 = .int .i64 x11_4 ∧ Aside0 (portcullisref05_Decode.l2 kq a0 x6_4 x8_4 x9_4 x10_4 x11_4 = some (r1, r2)) ∧ Aside0 (kq ≤ kj14) ∧ Aside0 (Kd.R (Kd.int .i32) 21 w' w.heap.size (fun _ => True) v6 x6_4) ∧ Aside0 (Below w.heap.size w w'))
                    case atStart => exact ⟨(x6_2), (x8_14), (128), (0), (72), (by first | rfl | (simp; done) | (simp [*]; done)), (by first | rfl | (simp; done) | (simp [*]; done)), (by first | rfl | (simp; done) | (simp [*]; done)), (by first | rfl | (simp; done) | (simp [*]; done)), H', ⟨Nat.le_refl _⟩, ⟨by (with_reducible repeat (first | apply Kd.R_alloc | apply Kd.R_drewN | apply Kd.R_drew)); exact HO_6.out⟩, ⟨by repeat (first | (with_reducible first | exact HB.out | apply below_alloc | apply pw_below_drewN | apply below_drew1) | exact HB.out)⟩⟩
                    case round =>
                      clear H'
                      try clear c1
                      try clear p1
                      try clear q1
                      try clear hx1
                      try clear c2
                      try clear c2b0
                      try clear c2b1
                      try clear c2b2
                      try clear p2
                      try clear c3
                      try clear c3b0
                      try clear p3
                      try clear c4
                      try clear c4b0
                      try clear p5
                      try clear q5
                      try clear hx5
                      try clear c6
                      try clear c6b0
                      try clear p6
                      try clear p7
                      try clear q7
                      try clear hx7
                      try clear c8
                      try clear c8b0
                      try clear c8b1
                      try clear c9
                      try clear c9b0
                      try clear c10
                      try clear c10b0
                      try clear c11
                      try clear c11b0
                      try clear p12
                      try clear q12
                      try clear hx12
                      try clear c13
                      try clear c14
                      try clear c16
                      try clear c16b0
                      try clear p1
                      try clear p12
                      try clear p2
                      try clear p3
                      try clear p5
                      try clear p6
                      try clear p7
                      try clear q1
                      try clear q12
                      try clear q5
                      try clear q7
                      obtain ⟨x6_4, x8_4, x9_4, x10_4, x11_4, rfl, rfl, rfl, rfl, HA, HK4, HO_6, HB⟩ := hrel
                      cases gk with
                      | zero => exact absurd HA.out (by simp [portcullisref05_Decode.l2])
                      | succ k4 =>
                        have H := HA.out
                        clear HA
                        simp only [portcullisref05_Decode.l2] at H
                        by_cases c17 : x8_4 < (a0.size : Int)
                        · rw [if_pos c17] at H
                          have c17b0 : decide (x8_4 < (a0.size : Int)) = true := decide_eq_true c17
                          clear c17
                          have H' := Aside0.mk H
                          clear H
                          go_wp2
                          go_loopg [8, 10, 13, 14] k4 (fun kq v8 v10 v13 v14 w' => ∃ (x8_5 : Int) (x10_5 : Int) (x13_5 : Int) (x14_5 : Int), v8 = .int .i64 x8_5 ∧ v10 = .int .i64 x10_5 ∧ v13 = .int .i64 x13_5 ∧ v14 = .int .i64 x14_5 ∧ Aside0 (portcullisref05_Decode.l3 kq a0 x6_4 x8_5 x9_4 x10_5 x11_4 x10_4 x13_5 x14_5 = some (r1, r2)) ∧ Aside0 (kq ≤ k4) ∧ Aside0 (Kd.R (Kd.int .i32) 21 w' w.heap.size (fun _ => True) u6 x6_4) ∧ Aside0 (Below w.heap.size w w'))
                          case atStart => exact ⟨(x8_4), (x10_4), (1), (36), (by first | rfl | (simp; done) | (simp [*]; done)), (by first | rfl | (simp; done) | (simp [*]; done)), (by first | rfl | (simp; done) | (simp [*]; done)), (by first | rfl | (simp; done) | (simp [*]; done)), H', ⟨Nat.le_refl _⟩, ⟨by (with_reducible repeat (first | apply Kd.R_alloc | apply Kd.R_drewN | apply Kd.R_drew)); exact HO_6.out⟩, ⟨by repeat (first | (with_reducible first | exact HB.out | apply below_alloc | apply pw_below_drewN | apply below_drew1) | exact HB.out)⟩⟩
                          case round =>
                            clear H'
                            try clear c1
                            try clear p1
                            try clear q1
                            try clear hx1
                            try clear c2
                            try clear c2b0
                            try clear c2b1
                            try clear c2b2
                            try clear p2
                            try clear c3
                            try clear c3b0
                            try clear p3
                            try clear c4
                            try clear c4b0
                            try clear p5
                            try clear q5
                            try clear hx5
                            try clear c6
                            try clear c6b0
                            try clear p6
                            try clear p7
                            try clear q7
                            try clear hx7
                            try clear c8
                            try clear c8b0
                            try clear c8b1
                            try clear c9
                            try clear c9b0
                            try clear c10
                            try clear c10b0
                            try clear c11
                            try clear c11b0
                            try clear p12
                            try clear q12
                            try clear hx12
                            try clear c13
                            try clear c14
                            try clear c16
                            try clear c16b0
                            try clear c17
                            try clear c17b0
                            try clear p1
                            try clear p12
                            try clear p2
                            try clear p3
                            try clear p5
                            try clear p6
                            try clear p7
                            try clear q1
                            try clear q12
                            try clear q5
                            try clear q7
                            obtain ⟨x8_5, x10_5, x13_5, x14_5, rfl, rfl, rfl, rfl, HA, HK5, HO_6, HB⟩ := hrel
                            cases gk with
                            | zero => exact absurd HA.out (by simp [portcullisref05_Decode.l3])
                            | succ k5 =>
                              have H := HA.out
                              clear HA
                              simp only [portcullisref05_Decode.l3] at H
                              by_cases c18 : x8_5 = (a0.size : Int)
                              · rw [if_pos c18] at H
                                have c18b0 : (x8_5 == (a0.size : Int)) = true := beq_iff_eq.mpr c18
                                have c18b1 : (x8_5 != (a0.size : Int)) = false := bne_eq_false_iff_eq.mpr c18
                                clear c18
                                simp only [Option.some.injEq, Prod.mk.injEq] at H
                                obtain ⟨rfl, rfl⟩ := H
                                go_wp2
                                go_ret2
                                exact ⟨_, by first | rfl | (simp [errW_none, errW_some] <;> rfl) | (simp [*, errW_none, errW_some] <;> rfl), by first | exact Kd.R_nil _ _ _ _ _ | exact Kd.N_nil _ _ _ _ _ | exact Kd.V_nil _ _ _ _ _ | exact Kd.Q_nil _ _ _ _ _ | exact Kd.S_nil _ _ _ _ _, by repeat (first | (with_reducible first | exact HB.out | apply below_alloc | apply pw_below_drewN | apply below_drew1) | exact HB.out)⟩
                              · rw [if_neg c18] at H
                                have c18b0 : (x8_5 == (a0.size : Int)) = false := beq_eq_false_iff_ne.mpr c18
                                have c18b1 : (x8_5 != (a0.size : Int)) = true := bne_iff_ne.mpr c18
                                by_cases c19 : 0 ≤ x8_5
                                · rw [if_pos c19] at H
                                  have c19b0 : decide (0 ≤ x8_5) = true := decide_eq_true c19
                                  clear c19
                                  by_cases c20 : x8_5 < (a0.size : Int)
                                  · rw [if_pos c20] at H
                                    have c20b0 : decide (x8_5 < (a0.size : Int)) = true := decide_eq_true c20
                                    clear c20
                                    replace H := Option.bind_eq_some_iff.mp H
                                    obtain ⟨t202, A220, H⟩ := H
                                    replace H : (if t202 < 0 then (some (([] : List Int), 8)) else (if (wrap64 (x10_5 + (wrap64 (t202 * x13_5)))) > 2147483647 then (some (([] : List Int), 8)) else ((portcullisref05_threshold.f x14_5 x11_4).bind fun t203 => (if t202 < t203 then ((portcullisref05_Adapt.f k5 (wrap64 ((wrap64 (x10_5 + (wrap64 (t202 * x13_5)))) - x10_4)) (wrap64 ((x6_4.length : Int) + 1)) (x10_4 == 0)).bind fun t204 => (if (wrap64 ((x6_4.length : Int) + 1)) = 0 then (none) else (if (wrap64 (x9_4 + (wrap64 (Int.tdiv (wrap64 (x10_5 + (wrap64 (t202 * x13_5)))) (wrap64 ((x6_4.length : Int) + 1)))))) > 1114111 then (some (([] : List Int), 8)) else ((portcullisref01_Scalar.f (wrap32 (wrap64 (x9_4 + (wrap64 (Int.tdiv (wrap64 (x10_5 + (wrap64 (t202 * x13_5)))) (wrap64 ((x6_4.length : Int) + 1)))))))).bind fun t205 => (if t205 = true then (if 0 ≤ (Int.tmod (wrap64 (x10_5 + (wrap64 (t202 * x13_5)))) (wrap64 ((x6_4.length : Int) + 1))) then (if (Int.tmod (wrap64 (x10_5 + (wrap64 (t202 * x13_5)))) (wrap64 ((x6_4.length : Int) + 1))) ≤ (x6_4.length : Int) then ((some (x6_4.take ((Int.tmod (wrap64 (x10_5 + (wrap64 (t202 * x13_5)))) (wrap64 ((x6_4.length : Int) + 1))) : Int).toNat : List Int)).bind fun y206 => (if ([] : List Int).length + y206.length < 35184372088832 then ((some (([] : List Int) ++ y206 : List Int)).bind fun y210 => (if y210.length < 35184372088832 then ((some (y210 ++ [wrap32 (wrap64 (x9_4 + (wrap64 (Int.tdiv (wrap64 (x10_5 + (wrap64 (t202 * x13_5)))) (wrap64 ((x6_4.length : Int) + 1))))))] : List Int)).bind fun y213 => ((some (x6_4.drop ((Int.tmod (wrap64 (x10_5 + (wrap64 (t202 * x13_5)))) (wrap64 ((x6_4.length : Int) + 1))) : Int).toNat : List Int)).bind fun y216 => (if y213.length + y216.length < 35184372088832 then (portcullisref05_Decode.l2 k5 a0 (y213 ++ y216) (wrap64 (x8_5 + 1)) (wrap64 (x9_4 + (wrap64 (Int.tdiv (wrap64 (x10_5 + (wrap64 (t202 * x13_5)))) (wrap64 ((x6_4.length : Int) + 1)))))) (wrap64 ((Int.tmod (wrap64 (x10_5 + (wrap64 (t202 * x13_5)))) (wrap64 ((x6_4.length : Int) + 1))) + 1)) t204) else (none)))) else (none))) else (none))) else (none)) else (none)) else (some (([] : List Int), 8))))))) else (if (wrap64 (x13_5 * (wrap64 (36 - t203)))) > 2147483647 then (some (([] : List Int), 8)) else (portcullisref05_Decode.l3 k5 a0 x6_4 (wrap64 (x8_5 + 1)) x9_4 (wrap64 (x10_5 + (wrap64 (t202 * x13_5)))) x11_4 x10_4 (wrap64 (x13_5 * (wrap64 (36 - t203)))) (wrap64 (x14_5 + 36)))))))) = some (r1, r2) := H
                                    have A22 := Aside0.mk A220
                                    clear A220
                                    by_cases c23 : t202 < 0
                                    · rw [if_pos c23] at H
                                      have c23b0 : decide (t202 < 0) = true := decide_eq_true c23
                                      clear c23
                                      simp only [Option.some.injEq, Prod.mk.injEq] at H
                                      obtain ⟨rfl, rfl⟩ := H
                                      have p21 : 0 ≤ (x8_5 : Int) := of_decide_eq_true (by first | (with_reducible assumption) | assumption)
                                      have q21 : x8_5 < (a0.size : Int) := of_decide_eq_true (by first | (with_reducible assumption) | assumption)
                                      have hx21 := bt_at a0 x8_5
                                      replace p21 := eq_true p21
                                      replace q21 := eq_true q21
                                      go_wp2_with (first | ((with_reducible refine gate_callee (f := 29) rfl ?_); refine goesL_ (some 68) rfl rfl Try.func29 (by kernel_rfl) rfl #[.int .u8 (bt a0 x8_5)] rfl (by (try simp only [List.map_toArray, List.map_cons, List.map_nil]); first | done | rfl | (simp only [List.length_drop, List.length_take]; rfl)) ?_; (with_reducible refine (portcullisref05_digit.calls k5 (bt a0 x8_5) t202 _ A22.out).mono ?_); rintro e w' ⟨rfl, ⟨nd, rfl⟩⟩; refine ⟨_, rfl, ?_⟩))
                                      go_ret2
                                      exact ⟨_, by first | rfl | (simp [errW_none, errW_some] <;> rfl) | (simp [*, errW_none, errW_some] <;> rfl), by first | exact Kd.R_nil _ _ _ _ _ | exact Kd.N_nil _ _ _ _ _ | exact Kd.V_nil _ _ _ _ _ | exact Kd.Q_nil _ _ _ _ _ | exact Kd.S_nil _ _ _ _ _, by repeat (first | (with_reducible first | exact HB.out | apply below_alloc | apply pw_below_drewN | apply below_drew1) | exact HB.out)⟩
                                    · rw [if_neg c23] at H
                                      have c23b0 : decide (t202 < 0) = false := decide_eq_false c23
                                      clear c23
                                      by_cases c24 : (wrap64 (x10_5 + (wrap64 (t202 * x13_5)))) > 2147483647
                                      · rw [if_pos c24] at H
                                        have c24b0 : decide (2147483647 < (wrap64 (x10_5 + (wrap64 (t202 * x13_5))))) = true := decide_eq_true c24
                                        clear c24
                                        simp only [Option.some.injEq, Prod.mk.injEq] at H
                                        obtain ⟨rfl, rfl⟩ := H
                                        have p21 : 0 ≤ (x8_5 : Int) := of_decide_eq_true (by first | (with_reducible assumption) | assumption)
                                        have q21 : x8_5 < (a0.size : Int) := of_decide_eq_true (by first | (with_reducible assumption) | assumption)
                                        have hx21 := bt_at a0 x8_5
                                        replace p21 := eq_true p21
                                        replace q21 := eq_true q21
                                        go_wp2_with (first | ((with_reducible refine gate_callee (f := 29) rfl ?_); refine goesL_ (some 68) rfl rfl Try.func29 (by kernel_rfl) rfl #[.int .u8 (bt a0 x8_5)] rfl (by (try simp only [List.map_toArray, List.map_cons, List.map_nil]); first | done | rfl | (simp only [List.length_drop, List.length_take]; rfl)) ?_; (with_reducible refine (portcullisref05_digit.calls k5 (bt a0 x8_5) t202 _ A22.out).mono ?_); rintro e w' ⟨rfl, ⟨nd, rfl⟩⟩; refine ⟨_, rfl, ?_⟩))
                                        go_ret2
                                        exact ⟨_, by first | rfl | (simp [errW_none, errW_some] <;> rfl) | (simp [*, errW_none, errW_some] <;> rfl), by first | exact Kd.R_nil _ _ _ _ _ | exact Kd.N_nil _ _ _ _ _ | exact Kd.V_nil _ _ _ _ _ | exact Kd.Q_nil _ _ _ _ _ | exact Kd.S_nil _ _ _ _ _, by repeat (first | (with_reducible first | exact HB.out | apply below_alloc | apply pw_below_drewN | apply below_drew1) | exact HB.out)⟩
                                      · rw [if_neg c24] at H
                                        have c24b0 : decide (2147483647 < (wrap64 (x10_5 + (wrap64 (t202 * x13_5))))) = false := decide_eq_false c24
                                        clear c24
                                        replace H := Option.bind_eq_some_iff.mp H
                                        obtain ⟨t203, A250, H⟩ := H
                                        replace H : (if t202 < t203 then ((portcullisref05_Adapt.f k5 (wrap64 ((wrap64 (x10_5 + (wrap64 (t202 * x13_5)))) - x10_4)) (wrap64 ((x6_4.length : Int) + 1)) (x10_4 == 0)).bind fun t204 => (if (wrap64 ((x6_4.length : Int) + 1)) = 0 then (none) else (if (wrap64 (x9_4 + (wrap64 (Int.tdiv (wrap64 (x10_5 + (wrap64 (t202 * x13_5)))) (wrap64 ((x6_4.length : Int) + 1)))))) > 1114111 then (some (([] : List Int), 8)) else ((portcullisref01_Scalar.f (wrap32 (wrap64 (x9_4 + (wrap64 (Int.tdiv (wrap64 (x10_5 + (wrap64 (t202 * x13_5)))) (wrap64 ((x6_4.length : Int) + 1)))))))).bind fun t205 => (if t205 = true then (if 0 ≤ (Int.tmod (wrap64 (x10_5 + (wrap64 (t202 * x13_5)))) (wrap64 ((x6_4.length : Int) + 1))) then (if (Int.tmod (wrap64 (x10_5 + (wrap64 (t202 * x13_5)))) (wrap64 ((x6_4.length : Int) + 1))) ≤ (x6_4.length : Int) then ((some (x6_4.take ((Int.tmod (wrap64 (x10_5 + (wrap64 (t202 * x13_5)))) (wrap64 ((x6_4.length : Int) + 1))) : Int).toNat : List Int)).bind fun y206 => (if ([] : List Int).length + y206.length < 35184372088832 then ((some (([] : List Int) ++ y206 : List Int)).bind fun y210 => (if y210.length < 35184372088832 then ((some (y210 ++ [wrap32 (wrap64 (x9_4 + (wrap64 (Int.tdiv (wrap64 (x10_5 + (wrap64 (t202 * x13_5)))) (wrap64 ((x6_4.length : Int) + 1))))))] : List Int)).bind fun y213 => ((some (x6_4.drop ((Int.tmod (wrap64 (x10_5 + (wrap64 (t202 * x13_5)))) (wrap64 ((x6_4.length : Int) + 1))) : Int).toNat : List Int)).bind fun y216 => (if y213.length + y216.length < 35184372088832 then (portcullisref05_Decode.l2 k5 a0 (y213 ++ y216) (wrap64 (x8_5 + 1)) (wrap64 (x9_4 + (wrap64 (Int.tdiv (wrap64 (x10_5 + (wrap64 (t202 * x13_5)))) (wrap64 ((x6_4.length : Int) + 1)))))) (wrap64 ((Int.tmod (wrap64 (x10_5 + (wrap64 (t202 * x13_5)))) (wrap64 ((x6_4.length : Int) + 1))) + 1)) t204) else (none)))) else (none))) else (none))) else (none)) else (none)) else (some (([] : List Int), 8))))))) else (if (wrap64 (x13_5 * (wrap64 (36 - t203)))) > 2147483647 then (some (([] : List Int), 8)) else (portcullisref05_Decode.l3 k5 a0 x6_4 (wrap64 (x8_5 + 1)) x9_4 (wrap64 (x10_5 + (wrap64 (t202 * x13_5)))) x11_4 x10_4 (wrap64 (x13_5 * (wrap64 (36 - t203)))) (wrap64 (x14_5 + 36))))) = some (r1, r2) := H
                                        have A25 := Aside0.mk A250
                                        clear A250
                                        by_cases c26 : t202 < t203
                                        · rw [if_pos c26] at H
                                          have c26b0 : decide (t202 < t203) = true := decide_eq_true c26
                                          clear c26
                                          replace H := Option.bind_eq_some_iff.mp H
                                          obtain ⟨t204, A270, H⟩ := H
                                          replace H : (if (wrap64 ((x6_4.length : Int) + 1)) = 0 then (none) else (if (wrap64 (x9_4 + (wrap64 (Int.tdiv (wrap64 (x10_5 + (wrap64 (t202 * x13_5)))) (wrap64 ((x6_4.length : Int) + 1)))))) > 1114111 then (some (([] : List Int), 8)) else ((portcullisref01_Scalar.f (wrap32 (wrap64 (x9_4 + (wrap64 (Int.tdiv (wrap64 (x10_5 + (wrap64 (t202 * x13_5)))) (wrap64 ((x6_4.length : Int) + 1)))))))).bind fun t205 => (if t205 = true then (if 0 ≤ (Int.tmod (wrap64 (x10_5 + (wrap64 (t202 * x13_5)))) (wrap64 ((x6_4.length : Int) + 1))) then (if (Int.tmod (wrap64 (x10_5 + (wrap64 (t202 * x13_5)))) (wrap64 ((x6_4.length : Int) + 1))) ≤ (x6_4.length : Int) then ((some (x6_4.take ((Int.tmod (wrap64 (x10_5 + (wrap64 (t202 * x13_5)))) (wrap64 ((x6_4.length : Int) + 1))) : Int).toNat : List Int)).bind fun y206 => (if ([] : List Int).length + y206.length < 35184372088832 then ((some (([] : List Int) ++ y206 : List Int)).bind fun y210 => (if y210.length < 35184372088832 then ((some (y210 ++ [wrap32 (wrap64 (x9_4 + (wrap64 (Int.tdiv (wrap64 (x10_5 + (wrap64 (t202 * x13_5)))) (wrap64 ((x6_4.length : Int) + 1))))))] : List Int)).bind fun y213 => ((some (x6_4.drop ((Int.tmod (wrap64 (x10_5 + (wrap64 (t202 * x13_5)))) (wrap64 ((x6_4.length : Int) + 1))) : Int).toNat : List Int)).bind fun y216 => (if y213.length + y216.length < 35184372088832 then (portcullisref05_Decode.l2 k5 a0 (y213 ++ y216) (wrap64 (x8_5 + 1)) (wrap64 (x9_4 + (wrap64 (Int.tdiv (wrap64 (x10_5 + (wrap64 (t202 * x13_5)))) (wrap64 ((x6_4.length : Int) + 1)))))) (wrap64 ((Int.tmod (wrap64 (x10_5 + (wrap64 (t202 * x13_5)))) (wrap64 ((x6_4.length : Int) + 1))) + 1)) t204) else (none)))) else (none))) else (none))) else (none)) else (none)) else (some (([] : List Int), 8)))))) = some (r1, r2) := H
                                          have A27 := Aside0.mk A270
                                          clear A270
                                          by_cases c28 : (wrap64 ((x6_4.length : Int) + 1)) = 0
                                          · rw [if_pos c28] at H
                                            exact absurd H (by simp)
                                          · rw [if_neg c28] at H
                                            have c28b0 : ((wrap64 ((x6_4.length : Int) + 1)) == 0) = false := beq_eq_false_iff_ne.mpr c28
                                            have c28b1 : ((wrap64 ((x6_4.length : Int) + 1)) != 0) = true := bne_iff_ne.mpr c28
                                            by_cases c29 : (wrap64 (x9_4 + (wrap64 (Int.tdiv (wrap64 (x10_5 + (wrap64 (t202 * x13_5)))) (wrap64 ((x6_4.length : Int) + 1)))))) > 1114111
                                            · rw [if_pos c29] at H
                                              have c29b0 : decide (1114111 < (wrap64 (x9_4 + (wrap64 (Int.tdiv (wrap64 (x10_5 + (wrap64 (t202 * x13_5)))) (wrap64 ((x6_4.length : Int) + 1))))))) = true := decide_eq_true c29
                                              clear c29
                                              simp only [Option.some.injEq, Prod.mk.injEq] at H
                                              obtain ⟨rfl, rfl⟩ := H
                                              have p21 : 0 ≤ (x8_5 : Int) := of_decide_eq_true (by first | (with_reducible assumption) | assumption)
                                              have q21 : x8_5 < (a0.size : Int) := of_decide_eq_true (by first | (with_reducible assumption) | assumption)
                                              have hx21 := bt_at a0 x8_5
                                              replace p21 := eq_true p21
                                              replace q21 := eq_true q21
                                              go_wp2_with (first | ((with_reducible refine gate_callee (f := 29) rfl ?_); refine goesL_ (some 68) rfl rfl Try.func29 (by kernel_rfl) rfl #[.int .u8 (bt a0 x8_5)] rfl (by (try simp only [List.map_toArray, List.map_cons, List.map_nil]); first | done | rfl | (simp only [List.length_drop, List.length_take]; rfl)) ?_; (with_reducible refine (portcullisref05_digit.calls k5 (bt a0 x8_5) t202 _ A22.out).mono ?_); rintro e w' ⟨rfl, ⟨nd, rfl⟩⟩; refine ⟨_, rfl, ?_⟩) | ((with_reducible refine gate_callee (f := 22) rfl ?_); refine goesL_ (some 82) rfl rfl Try.func22 (by kernel_rfl) rfl #[.int .i64 x14_5, .int .i64 x11_4] rfl (by (try simp only [List.map_toArray, List.map_cons, List.map_nil]); first | done | rfl | (simp only [List.length_drop, List.length_take]; rfl)) ?_; (with_reducible refine (portcullisref05_threshold.calls x14_5 x11_4 t203 _ A25.out).mono ?_); rintro e w' ⟨rfl, ⟨nd, rfl⟩⟩; refine ⟨_, rfl, ?_⟩; obtain ⟨Ao30, co30, eo30⟩ := Kd.R_slice HO_6.out; subst eo30) | ((with_reducible refine gate_callee (f := 12) rfl ?_); refine goesL_ (some 101) rfl rfl Try.func12 (by kernel_rfl) rfl #[.int .i64 (wrap64 ((wrap64 (x10_5 + (wrap64 (t202 * x13_5)))) - x10_4)), .int .i64 (wrap64 ((x6_4.length : Int) + 1)), .bool (x10_4 == 0)] rfl (by (try simp only [List.map_toArray, List.map_cons, List.map_nil]); first | done | rfl | (simp only [List.length_drop, List.length_take]; rfl)) ?_; (with_reducible refine (portcullisref05_Adapt.calls k5 (wrap64 ((wrap64 (x10_5 + (wrap64 (t202 * x13_5)))) - x10_4)) (wrap64 ((x6_4.length : Int) + 1)) (x10_4 == 0) t204 _ A27.out).mono ?_); rintro e w' ⟨rfl, ⟨nd, rfl⟩⟩; refine ⟨_, rfl, ?_⟩))
                                              go_ret2
                                              exact ⟨_, by first | rfl | (simp [errW_none, errW_some] <;> rfl) | (simp [*, errW_none, errW_some] <;> rfl), by first | exact Kd.R_nil _ _ _ _ _ | exact Kd.N_nil _ _ _ _ _ | exact Kd.V_nil _ _ _ _ _ | exact Kd.Q_nil _ _ _ _ _ | exact Kd.S_nil _ _ _ _ _, by repeat (first | (with_reducible first | exact HB.out | apply below_alloc | apply pw_below_drewN | apply below_drew1) | exact HB.out)⟩
                                            · rw [if_neg c29] at H
                                              have c29b0 : decide (1114111 < (wrap64 (x9_4 + (wrap64 (Int.tdiv (wrap64 (x10_5 + (wrap64 (t202 * x13_5)))) (wrap64 ((x6_4.length : Int) + 1))))))) = false := decide_eq_false c29
                                              clear c29
                                              replace H := Option.bind_eq_some_iff.mp H
                                              obtain ⟨t205, A310, H⟩ := H
                                              replace H : (if t205 = true then (if 0 ≤ (Int.tmod (wrap64 (x10_5 + (wrap64 (t202 * x13_5)))) (wrap64 ((x6_4.length : Int) + 1))) then (if (Int.tmod (wrap64 (x10_5 + (wrap64 (t202 * x13_5)))) (wrap64 ((x6_4.length : Int) + 1))) ≤ (x6_4.length : Int) then ((some (x6_4.take ((Int.tmod (wrap64 (x10_5 + (wrap64 (t202 * x13_5)))) (wrap64 ((x6_4.length : Int) + 1))) : Int).toNat : List Int)).bind fun y206 => (if ([] : List Int).length + y206.length < 35184372088832 then ((some (([] : List Int) ++ y206 : List Int)).bind fun y210 => (if y210.length < 35184372088832 then ((some (y210 ++ [wrap32 (wrap64 (x9_4 + (wrap64 (Int.tdiv (wrap64 (x10_5 + (wrap64 (t202 * x13_5)))) (wrap64 ((x6_4.length : Int) + 1))))))] : List Int)).bind fun y213 => ((some (x6_4.drop ((Int.tmod (wrap64 (x10_5 + (wrap64 (t202 * x13_5)))) (wrap64 ((x6_4.length : Int) + 1))) : Int).toNat : List Int)).bind fun y216 => (if y213.length + y216.length < 35184372088832 then (portcullisref05_Decode.l2 k5 a0 (y213 ++ y216) (wrap64 (x8_5 + 1)) (wrap64 (x9_4 + (wrap64 (Int.tdiv (wrap64 (x10_5 + (wrap64 (t202 * x13_5)))) (wrap64 ((x6_4.length : Int) + 1)))))) (wrap64 ((Int.tmod (wrap64 (x10_5 + (wrap64 (t202 * x13_5)))) (wrap64 ((x6_4.length : Int) + 1))) + 1)) t204) else (none)))) else (none))) else (none))) else (none)) else (none)) else (some (([] : List Int), 8))) = some (r1, r2) := H
                                              have A31 := Aside0.mk A310
                                              clear A310
                                              by_cases c32 : t205 = true
                                              · subst c32
                                                have H1 : (if 0 ≤ (Int.tmod (wrap64 (x10_5 + (wrap64 (t202 * x13_5)))) (wrap64 ((x6_4.length : Int) + 1))) then (if (Int.tmod (wrap64 (x10_5 + (wrap64 (t202 * x13_5)))) (wrap64 ((x6_4.length : Int) + 1))) ≤ (x6_4.length : Int) then ((some (x6_4.take ((Int.tmod (wrap64 (x10_5 + (wrap64 (t202 * x13_5)))) (wrap64 ((x6_4.length : Int) + 1))) : Int).toNat : List Int)).bind fun y206 => (if ([] : List Int).length + y206.length < 35184372088832 then ((some (([] : List Int) ++ y206 : List Int)).bind fun y210 => (if y210.length < 35184372088832 then ((some (y210 ++ [wrap32 (wrap64 (x9_4 + (wrap64 (Int.tdiv (wrap64 (x10_5 + (wrap64 (t202 * x13_5)))) (wrap64 ((x6_4.length : Int) + 1))))))] : List Int)).bind fun y213 => ((some (x6_4.drop ((Int.tmod (wrap64 (x10_5 + (wrap64 (t202 * x13_5)))) (wrap64 ((x6_4.length : Int) + 1))) : Int).toNat : List Int)).bind fun y216 => (if y213.length + y216.length < 35184372088832 then (portcullisref05_Decode.l2 k5 a0 (y213 ++ y216) (wrap64 (x8_5 + 1)) (wrap64 (x9_4 + (wrap64 (Int.tdiv (wrap64 (x10_5 + (wrap64 (t202 * x13_5)))) (wrap64 ((x6_4.length : Int) + 1)))))) (wrap64 ((Int.tmod (wrap64 (x10_5 + (wrap64 (t202 * x13_5)))) (wrap64 ((x6_4.length : Int) + 1))) + 1)) t204) else (none)))) else (none))) else (none))) else (none)) else (none)) = some (r1, r2) := by rw [if_pos rfl] at H; exact H
                                                clear H
                                                have H := H1
                                                clear H1
                                                obtain ⟨ji33, hji33⟩ : ∃ j_ : Int, (Int.tmod (wrap64 (x10_5 + (wrap64 (t202 * x13_5)))) (wrap64 ((x6_4.length : Int) + 1))) = j_ := ⟨_, rfl⟩
                                                replace H : (if 0 ≤ (ji33) then (if (ji33) ≤ (x6_4.length : Int) then ((some (x6_4.take ((ji33) : Int).toNat : List Int)).bind fun y206 => (if ([] : List Int).length + y206.length < 35184372088832 then ((some (([] : List Int) ++ y206 : List Int)).bind fun y210 => (if y210.length < 35184372088832 then ((some (y210 ++ [wrap32 (wrap64 (x9_4 + (wrap64 (Int.tdiv (wrap64 (x10_5 + (wrap64 (t202 * x13_5)))) (wrap64 ((x6_4.length : Int) + 1))))))] : List Int)).bind fun y213 => ((some (x6_4.drop ((ji33) : Int).toNat : List Int)).bind fun y216 => (if y213.length + y216.length < 35184372088832 then (portcullisref05_Decode.l2 k5 a0 (y213 ++ y216) (wrap64 (x8_5 + 1)) (wrap64 (x9_4 + (wrap64 (Int.tdiv (wrap64 (x10_5 + (wrap64 (t202 * x13_5)))) (wrap64 ((x6_4.length : Int) + 1)))))) (wrap64 ((ji33) + 1)) t204) else (none)))) else (none))) else (none))) else (none)) else (none)) = some (r1, r2) := by first | (rw [hji33] at H; exact H) | (simp only [hji33] at H ⊢; exact H)
                                                (try rw [hji33] at A22)
                                                (try rw [hji33] at A25)
                                                (try rw [hji33] at A27)
                                                (try rw [hji33] at A31)
                                                by_cases c34 : 0 ≤ (ji33)
                                                · rw [if_pos c34] at H
                                                  have c34b0 := eq_true c34
                                                  have c34b1 : decide (0 ≤ (ji33)) = true := decide_eq_true c34
                                                  clear c34
                                                  by_cases c35 : (ji33) ≤ (x6_4.length : Int)
                                                  · rw [if_pos c35] at H
                                                    have c35b0 := eq_true c35
                                                    have c35b1 : decide ((ji33) ≤ (x6_4.length : Int)) = true := decide_eq_true c35
                                                    clear c35
                                                    obtain ⟨y206, hy206⟩ : ∃ y_ : List Int, y_ = (x6_4.take ((ji33) : Int).toNat) := ⟨_, rfl⟩
                                                    replace H : (if ([] : List Int).length + y206.length < 35184372088832 then ((some (([] : List Int) ++ y206 : List Int)).bind fun y210 => (if y210.length < 35184372088832 then ((some (y210 ++ [wrap32 (wrap64 (x9_4 + (wrap64 (Int.tdiv (wrap64 (x10_5 + (wrap64 (t202 * x13_5)))) (wrap64 ((x6_4.length : Int) + 1))))))] : List Int)).bind fun y213 => ((some (x6_4.drop ((ji33) : Int).toNat : List Int)).bind fun y216 => (if y213.length + y216.length < 35184372088832 then (portcullisref05_Decode.l2 k5 a0 (y213 ++ y216) (wrap64 (x8_5 + 1)) (wrap64 (x9_4 + (wrap64 (Int.tdiv (wrap64 (x10_5 + (wrap64 (t202 * x13_5)))) (wrap64 ((x6_4.length : Int) + 1)))))) (wrap64 ((ji33) + 1)) t204) else (none)))) else (none))) else (none)) = some (r1, r2) := by first | (rw [hy206]; with_reducible exact H) | (have H2_ := (Option.bind_some _ _).symm.trans H; rw [hy206]; with_reducible exact H2_) | (have H2_ := (Option.bind_some _ _).symm.trans H; with_reducible exact H2_) | with_reducible exact H | (rw [hy206]; exact H) | exact H
                                                    have Ny206 := Aside0.mk hy206
                                                    clear hy206
                                                    by_cases c36 : ([] : List Int).length + y206.length < 35184372088832
                                                    · rw [if_pos c36] at H
                                                      have LMc36 := Aside0.mk c36
                                                      clear c36
                                                      obtain ⟨y210, hy210⟩ : ∃ y_ : List Int, y_ = (([] : List Int) ++ y206) := ⟨_, rfl⟩
                                                      replace H : (if y210.length < 35184372088832 then ((some (y210 ++ [wrap32 (wrap64 (x9_4 + (wrap64 (Int.tdiv (wrap64 (x10_5 + (wrap64 (t202 * x13_5)))) (wrap64 ((x6_4.length : Int) + 1))))))] : List Int)).bind fun y213 => ((some (x6_4.drop ((ji33) : Int).toNat : List Int)).bind fun y216 => (if y213.length + y216.length < 35184372088832 then (portcullisref05_Decode.l2 k5 a0 (y213 ++ y216) (wrap64 (x8_5 + 1)) (wrap64 (x9_4 + (wrap64 (Int.tdiv (wrap64 (x10_5 + (wrap64 (t202 * x13_5)))) (wrap64 ((x6_4.length : Int) + 1)))))) (wrap64 ((ji33) + 1)) t204) else (none)))) else (none)) = some (r1, r2) := by first | (rw [hy210]; with_reducible exact H) | (have H2_ := (Option.bind_some _ _).symm.trans H; rw [hy210]; with_reducible exact H2_) | (have H2_ := (Option.bind_some _ _).symm.trans H; with_reducible exact H2_) | with_reducible exact H | (rw [hy210]; exact H) | exact H
                                                      have Ny210 := Aside0.mk hy210
                                                      clear hy210
                                                      by_cases c37 : y210.length < 35184372088832
                                                      · rw [if_pos c37] at H
                                                        have LMc37 := Aside0.mk c37
                                                        clear c37
                                                        obtain ⟨y213, hy213⟩ : ∃ y_ : List Int, y_ = (y210 ++ [wrap32 (wrap64 (x9_4 + (wrap64 (Int.tdiv (wrap64 (x10_5 + (wrap64 (t202 * x13_5)))) (wrap64 ((x6_4.length : Int) + 1))))))]) := ⟨_, rfl⟩
                                                        replace H : ((some (x6_4.drop ((ji33) : Int).toNat : List Int)).bind fun y216 => (if y213.length + y216.length < 35184372088832 then (portcullisref05_Decode.l2 k5 a0 (y213 ++ y216) (wrap64 (x8_5 + 1)) (wrap64 (x9_4 + (wrap64 (Int.tdiv (wrap64 (x10_5 + (wrap64 (t202 * x13_5)))) (wrap64 ((x6_4.length : Int) + 1)))))) (wrap64 ((ji33) + 1)) t204) else (none))) = some (r1, r2) := by first | (rw [hy213]; with_reducible exact H) | (have H2_ := (Option.bind_some _ _).symm.trans H; rw [hy213]; with_reducible exact H2_) | (have H2_ := (Option.bind_some _ _).symm.trans H; with_reducible exact H2_) | with_reducible exact H | (rw [hy213]; exact H) | exact H
                                                        have Ny213 := Aside0.mk hy213
                                                        clear hy213
                                                        have c38b0 := eq_true (of_decide_eq_true (by first | (with_reducible assumption) | assumption) : 0 ≤ (ji33))
                                                        have c39b0 := eq_true (of_decide_eq_true (by first | (with_reducible assumption) | assumption) : (ji33) ≤ (x6_4.length : Int))
                                                        obtain ⟨y216, hy216⟩ : ∃ y_ : List Int, y_ = (x6_4.drop ((ji33) : Int).toNat) := ⟨_, rfl⟩
                                                        replace H : (if y213.length + y216.length < 35184372088832 then (portcullisref05_Decode.l2 k5 a0 (y213 ++ y216) (wrap64 (x8_5 + 1)) (wrap64 (x9_4 + (wrap64 (Int.tdiv (wrap64 (x10_5 + (wrap64 (t202 * x13_5)))) (wrap64 ((x6_4.length : Int) + 1)))))) (wrap64 ((ji33) + 1)) t204) else (none)) = some (r1, r2) := by first | (rw [hy216]; with_reducible exact H) | (have H2_ := (Option.bind_some _ _).symm.trans H; rw [hy216]; with_reducible exact H2_) | (have H2_ := (Option.bind_some _ _).symm.trans H; with_reducible exact H2_) | with_reducible exact H | (rw [hy216]; exact H) | exact H
                                                        have Ny216 := Aside0.mk hy216
                                                        clear hy216
                                                        by_cases c40 : y213.length + y216.length < 35184372088832
                                                        · rw [if_pos c40] at H
                                                          have LMc40 := Aside0.mk c40
                                                          clear c40
                                                          obtain ⟨y220, hy220⟩ : ∃ y_ : List Int, y_ = (y213 ++ y216) := ⟨_, rfl⟩
                                                          replace H : (portcullisref05_Decode.l2 k5 a0 y220 (wrap64 (x8_5 + 1)) (wrap64 (x9_4 + (wrap64 (Int.tdiv (wrap64 (x10_5 + (wrap64 (t202 * x13_5)))) (wrap64 ((x6_4.length : Int) + 1)))))) (wrap64 ((ji33) + 1)) t204) = some (r1, r2) := by first | (rw [hy220]; with_reducible exact H) | (have H2_ := (Option.bind_some _ _).symm.trans H; rw [hy220]; with_reducible exact H2_) | (have H2_ := (Option.bind_some _ _).symm.trans H; with_reducible exact H2_) | with_reducible exact H | (rw [hy220]; exact H) | exact H
                                                          have Ny220 := Aside0.mk hy220
                                                          clear hy220
                                                          have H' := Aside0.mk H
                                                          clear H
                                                          have p21 : 0 ≤ (x8_5 : Int) := of_decide_eq_true (by first | (with_reducible assumption) | assumption)
                                                          have q21 : x8_5 < (a0.size : Int) := of_decide_eq_true (by first | (with_reducible assumption) | assumption)
                                                          have hx21 := bt_at a0 x8_5
                                                          replace p21 := eq_true p21
                                                          replace q21 := eq_true q21
                                                          go_wp2_with (first | ((with_reducible refine gate_callee (f := 29) rfl ?_); refine goesL_ (some 68) rfl rfl Try.func29 (by kernel_rfl) rfl #[.int .u8 (bt a0 x8_5)] rfl (by (try simp only [List.map_toArray, List.map_cons, List.map_nil]); first | done | rfl | (simp only [List.length_drop, List.length_take]; rfl)) ?_; (with_reducible refine (portcullisref05_digit.calls k5 (bt a0 x8_5) t202 _ A22.out).mono ?_); rintro e w' ⟨rfl, ⟨nd, rfl⟩⟩; refine ⟨_, rfl, ?_⟩) | ((with_reducible refine gate_callee (f := 22) rfl ?_); refine goesL_ (some 82) rfl rfl Try.func22 (by kernel_rfl) rfl #[.int .i64 x14_5, .int .i64 x11_4] rfl (by (try simp only [List.map_toArray, List.map_cons, List.map_nil]); first | done | rfl | (simp only [List.length_drop, List.length_take]; rfl)) ?_; (with_reducible refine (portcullisref05_threshold.calls x14_5 x11_4 t203 _ A25.out).mono ?_); rintro e w' ⟨rfl, ⟨nd, rfl⟩⟩; refine ⟨_, rfl, ?_⟩; obtain ⟨Ao41, co41, eo41⟩ := Kd.R_slice HO_6.out; subst eo41) | ((with_reducible refine gate_callee (f := 12) rfl ?_); refine goesL_ (some 101) rfl rfl Try.func12 (by kernel_rfl) rfl #[.int .i64 (wrap64 ((wrap64 (x10_5 + (wrap64 (t202 * x13_5)))) - x10_4)), .int .i64 (wrap64 ((x6_4.length : Int) + 1)), .bool (x10_4 == 0)] rfl (by (try simp only [List.map_toArray, List.map_cons, List.map_nil]); first | done | rfl | (simp only [List.length_drop, List.length_take]; rfl)) ?_; (with_reducible refine (portcullisref05_Adapt.calls k5 (wrap64 ((wrap64 (x10_5 + (wrap64 (t202 * x13_5)))) - x10_4)) (wrap64 ((x6_4.length : Int) + 1)) (x10_4 == 0) t204 _ A27.out).mono ?_); rintro e w' ⟨rfl, ⟨nd, rfl⟩⟩; refine ⟨_, rfl, ?_⟩) | (go_at_call 21; (with_reducible refine (portcullisref01_Scalar.calls (wrap32 (wrap64 (x9_4 + (wrap64 (Int.tdiv (wrap64 (x10_5 + (wrap64 (t202 * x13_5)))) (wrap64 ((x6_4.length : Int) + 1))))))) true _ A31.out).mono ?_); rintro e w' ⟨rfl, ⟨nd, rfl⟩⟩; have q42 : ((ji33) : Int) ≤ ((x6_4.length : Int) : Int) := of_decide_eq_true (by first | (with_reducible assumption) | assumption); obtain ⟨i042, hi042, _, hsz42, _⟩ := info_parts info21; have hroom42 : x6_4.length ≤ co41 := (Kd.R_reads' HO_6.out).2.1; have hC42 : Kd.C (Kd.int .i32) _ Ao41 x6_4.length x6_4 := (Kd.R_reads' HO_6.out).2.2; have hcut42 := cut_to (P := Try.prog) 22 21 .i64 Try.underlying22 hi042 Ao41 x6_4.length co41 (ji33) (of_decide_eq_true (by first | (with_reducible assumption) | assumption)) q42 hroom42; have hr42 := Kd.C_take (m := ((ji33) : Int).toNat) hC42 (by omega); have hy42 : y206.length = ((ji33) : Int).toNat := (by rw [Ny206.out, List.length_take]; omega); rw [← Ny206.out] at hr42; rw [← hy42] at hcut42; have HR209 := Aside0.mk hr42; have HC209 := Aside0.mk (show y206.length ≤ co41 from by omega); clear hr42 hC42 hroom42 hi042 hsz42; have KY42 := Aside0.mk hy42; clear hy42; have KL42 := Aside0.mk (show ((ji33) : Int).toNat ≤ x6_4.length from by omega); replace q42 := eq_true q42) | ((with_reducible refine gate_builtin (b := .append) (xs := #[.tmp 118, .tmp 121]) rfl ?_); at_builtin; refine Kd.R_append_rows (Kd.int .i32) (w0 := w) w.heap.size rfl (.tmp 118) (.tmp 121) 22 21 (.int .i32 0) 4 rfl Try.underlying22 info21 rfl (by decide) (by omega) (.slice none 0 0) ([] : List Int) y206 _ _ _ (fun k_ => some k_ ≠ (.slice Ao41 x6_4.length co41 : Value).ownBlock) (fun _ => False) rfl rfl ?aO ?aR (fun _ _ h => h) (fun _ h => h.elim) ?aF ?aB ?aS ?aL ?_; (case aR => repeat (first | exact (by repeat (first | (with_reducible exact HR209.out) | (with_reducible refine Kd.C_alloc ?_ _) | (with_reducible refine Kd.C_drewN ?_ _) | (with_reducible refine Kd.C_drew ?_) | exact HR209.out)) | (with_reducible refine Kd.C_alloc ?_ _) | (with_reducible refine Kd.C_drewN ?_ _) | (with_reducible refine Kd.C_drew ?_))); (case aB => exact (by repeat (first | (with_reducible first | exact HB.out | apply below_alloc | apply pw_below_drewN | apply below_drew1) | exact HB.out))); (case aF => exact (fun k_ hk => Kd.fresh' (Kd.R_lt (by (with_reducible repeat (first | apply Kd.R_alloc | apply Kd.R_drewN | apply Kd.R_drew)); exact HO_6.out)) k_ hk)); (case aO => exact ((Kd.R_nil _ _ _ _ (fun k_ => some k_ ≠ (.slice Ao41 x6_4.length co41 : Value).ownBlock)))); (case aS => exact (below_size (by repeat (first | (with_reducible first | exact HB.out | apply below_alloc | apply pw_below_drewN | apply below_drew1) | exact HB.out)))); (case aL => have := LMc36.out; omega); intro v211 w43 ho hb hg hat; rw [← Ny210.out] at ho; have n0_ := Aside0.mk (Kd.R_after (Kd.R_apart_nil (by (with_reducible repeat (first | apply Kd.R_alloc | apply Kd.R_drewN | apply Kd.R_drew)); exact HO_6.out)) hg hat); have n1_ := Aside0.mk (hb); have n2_ := Aside0.mk ((show Kd.C (Kd.int .i32) w43 Ao41 y206.length y206 from by rw [Ny206.out]; exact Kd.C_take (m := ((ji33) : Int).toNat) ((Kd.R_reads' (Kd.R_after (Kd.R_apart_nil (by (with_reducible repeat (first | apply Kd.R_alloc | apply Kd.R_drewN | apply Kd.R_drew)); exact HO_6.out)) hg hat)).2.2) KL42.out)); have n3_ := Aside0.mk (ho); clear HO_6; clear HB; clear HR209; have HO_6 := n0_; have HB := n1_; have HR209 := n2_; have HO212 := n3_; clear n0_ n1_ n2_ n3_; clear ho hb hg hat) | ((with_reducible refine gate_builtin (b := .append) (xs := #[.tmp 123, .tmp 126]) rfl ?_); at_builtin; refine Kd.R_append (Kd.int .i32) (w0 := w) w.heap.size rfl (.tmp 123) (.tmp 126) 22 21 (.int .i32 0) 4 rfl Try.underlying22 info21 rfl (by decide) (by omega) v211 y210 (wrap32 (wrap64 (x9_4 + (wrap64 (Int.tdiv (wrap64 (x10_5 + (wrap64 (t202 * x13_5)))) (wrap64 ((x6_4.length : Int) + 1))))))) [.int .i32 (wrap32 (wrap64 (x9_4 + (wrap64 (Int.tdiv (wrap64 (x10_5 + (wrap64 (t202 * x13_5)))) (wrap64 ((x6_4.length : Int) + 1)))))))] (fun k_ => some k_ ≠ (.slice Ao41 x6_4.length co41 : Value).ownBlock) (fun _ => False) rfl rfl ?aP (fun _ hk => hk.elim) ?aF ?aO ?aB ?aS ?aL ?_; (case aP => exact rfl); (case aB => exact (by repeat (first | (with_reducible first | exact HB.out | apply below_alloc | apply pw_below_drewN | apply below_drew1) | exact HB.out))); (case aF => exact (fun k_ hk => Kd.fresh' (Kd.R_lt (by (with_reducible repeat (first | apply Kd.R_alloc | apply Kd.R_drewN | apply Kd.R_drew)); exact HO_6.out)) k_ hk)); (case aO => exact (by (with_reducible repeat (first | apply Kd.R_alloc | apply Kd.R_drewN | apply Kd.R_drew)); exact HO212.out)); (case aS => exact (below_size (by repeat (first | (with_reducible first | exact HB.out | apply below_alloc | apply pw_below_drewN | apply below_drew1) | exact HB.out)))); (case aL => have := LMc37.out; omega); intro v214 w44 ho hb hg hat; rw [← Ny213.out] at ho; have n0_ := Aside0.mk (Kd.R_after (ok := (fun _ => True)) (by (with_reducible repeat (first | apply Kd.R_alloc | apply Kd.R_drewN | apply Kd.R_drew)); exact HO_6.out) hg hat); have n1_ := Aside0.mk (hb); have n2_ := Aside0.mk ((show Kd.C (Kd.int .i32) w44 Ao41 y206.length y206 from by rw [Ny206.out]; exact Kd.C_take (m := ((ji33) : Int).toNat) ((Kd.R_reads' (Kd.R_after (ok := (fun _ => True)) (by (with_reducible repeat (first | apply Kd.R_alloc | apply Kd.R_drewN | apply Kd.R_drew)); exact HO_6.out) hg hat)).2.2) KL42.out)); have n3_ := Aside0.mk (ho); clear HO_6; clear HB; clear HR209; clear HO212; have HO_6 := n0_; have HB := n1_; have HR209 := n2_; have HO215 := n3_; clear n0_ n1_ n2_ n3_; clear ho hb hg hat; have q45 : ((ji33) : Int) ≤ ((x6_4.length : Int) : Int) := of_decide_eq_true (by first | (with_reducible assumption) | assumption); obtain ⟨i045, hi045, _, hsz45, _⟩ := info_parts info21; have hroom45 : x6_4.length ≤ co41 := (Kd.R_reads' HO_6.out).2.1; have hC45 : Kd.C (Kd.int .i32) _ Ao41 x6_4.length x6_4 := (Kd.R_reads' HO_6.out).2.2; have q045 : (0 : Int) ≤ ((ji33) : Int) := of_decide_eq_true (by first | (with_reducible assumption) | assumption); have hcut45 := cut_from (P := Try.prog) 22 21 .i64 Try.underlying22 hi045 1 hsz45 Ao41 x6_4.length co41 (ji33) q045 q45; have hr45 := Kd.C_drop (m := ((ji33) : Int).toNat) (c := co41) hC45 (by omega) hroom45; obtain ⟨A45, hA45⟩ : ∃ A1, A1 = (if co41 = ((ji33) : Int).toNat then Ao41 else (Ao41 : Option Addr).map (·.add (((ji33) : Int).toNat * 1))) := ⟨_, rfl⟩; obtain ⟨c45, hc45⟩ : ∃ c1, c1 = co41 - ((ji33) : Int).toNat := ⟨_, rfl⟩; have hy45 : y216.length = x6_4.length - ((ji33) : Int).toNat := (by rw [Ny216.out, List.length_drop] <;> omega); rw [show (x6_4).drop ((ji33) : Int).toNat = y216 from Ny216.out.symm] at hr45; replace hr45 : Kd.C (Kd.int .i32) _ A45 y216.length y216 := (by rw [hA45]; exact hr45); rw [← hy45, ← hA45, ← hc45] at hcut45; have HR219 := Aside0.mk hr45; have HC219 := Aside0.mk (show y216.length ≤ c45 from by rw [hy45, hc45]; exact Nat.sub_le_sub_right hroom45 _); clear hr45 hC45 hroom45 hi045 hsz45 hc45; have KY45 := Aside0.mk hy45; have KA45 := Aside0.mk hA45; clear hy45 hA45; have KL45 := Aside0.mk (show ((ji33) : Int).toNat ≤ x6_4.length from by omega); replace q45 := eq_true q45) | ((with_reducible refine gate_builtin (b := .append) (xs := #[.tmp 128, .tmp 131]) rfl ?_); at_builtin; refine Kd.R_append_rows (Kd.int .i32) (w0 := w) w.heap.size rfl (.tmp 128) (.tmp 131) 22 21 (.int .i32 0) 4 rfl Try.underlying22 info21 rfl (by decide) (by omega) v214 y213 y216 _ _ _ (fun k_ => some k_ ≠ (.slice Ao41 x6_4.length co41 : Value).ownBlock) (fun _ => False) rfl rfl ?aO ?aR (fun _ _ h => h) (fun _ h => h.elim) ?aF ?aB ?aS ?aL ?_; (case aR => repeat (first | exact (by repeat (first | (with_reducible exact HR219.out) | (with_reducible refine Kd.C_alloc ?_ _) | (with_reducible refine Kd.C_drewN ?_ _) | (with_reducible refine Kd.C_drew ?_) | exact HR219.out)) | (with_reducible refine Kd.C_alloc ?_ _) | (with_reducible refine Kd.C_drewN ?_ _) | (with_reducible refine Kd.C_drew ?_))); (case aB => exact (by repeat (first | (with_reducible first | exact HB.out | apply below_alloc | apply pw_below_drewN | apply below_drew1) | exact HB.out))); (case aF => exact (fun k_ hk => Kd.fresh' (Kd.R_lt (by (with_reducible repeat (first | apply Kd.R_alloc | apply Kd.R_drewN | apply Kd.R_drew)); exact HO_6.out)) k_ hk)); (case aO => exact (by (with_reducible repeat (first | apply Kd.R_alloc | apply Kd.R_drewN | apply Kd.R_drew)); exact HO215.out)); (case aS => exact (below_size (by repeat (first | (with_reducible first | exact HB.out | apply below_alloc | apply pw_below_drewN | apply below_drew1) | exact HB.out)))); (case aL => have := LMc40.out; omega); intro v221 w46 ho hb hg hat; rw [← Ny220.out] at ho; have n0_ := Aside0.mk (Kd.R_after (ok := (fun _ => True)) (by (with_reducible repeat (first | apply Kd.R_alloc | apply Kd.R_drewN | apply Kd.R_drew)); exact HO_6.out) hg hat); have n1_ := Aside0.mk (hb); have n2_ := Aside0.mk ((show Kd.C (Kd.int .i32) w46 Ao41 y206.length y206 from by rw [Ny206.out]; exact Kd.C_take (m := ((ji33) : Int).toNat) ((Kd.R_reads' (Kd.R_after (ok := (fun _ => True)) (by (with_reducible repeat (first | apply Kd.R_alloc | apply Kd.R_drewN | apply Kd.R_drew)); exact HO_6.out) hg hat)).2.2) KL42.out)); have n3_ := Aside0.mk ((show Kd.C (Kd.int .i32) w46 A45 y216.length y216 from by rw [Ny216.out, KA45.out]; exact Kd.C_drop (m := ((ji33) : Int).toNat) (c := co41) ((Kd.R_reads' (Kd.R_after (ok := (fun _ => True)) (by (with_reducible repeat (first | apply Kd.R_alloc | apply Kd.R_drewN | apply Kd.R_drew)); exact HO_6.out) hg hat)).2.2) KL45.out ((Kd.R_reads' (Kd.R_after (ok := (fun _ => True)) (by (with_reducible repeat (first | apply Kd.R_alloc | apply Kd.R_drewN | apply Kd.R_drew)); exact HO_6.out) hg hat)).2.1))); have n4_ := Aside0.mk (ho); clear HO_6; clear HB; clear HR209; clear HR219; clear HO215; have HO_6 := n0_; have HB := n1_; have HR209 := n2_; have HR219 := n3_; have HO222 := n4_; clear n0_ n1_ n2_ n3_ n4_; clear ho hb hg hat))
                                                          go_roundg k5
                                                          case measure => have := HK1.out; have := HK2.out; have := HJ14.out; have := HK4.out; have := HK5.out; omega
                                                          case rel => exact ⟨(y220), (wrap64 (x8_5 + 1)), (wrap64 (x9_4 + (wrap64 (Int.tdiv (wrap64 (x10_5 + (wrap64 (t202 * x13_5)))) (wrap64 ((x6_4.length : Int) + 1)))))), (wrap64 ((ji33) + 1)), (t204), (by first | rfl | (simp; done) | (simp [*]; done)), (by first | rfl | (simp; done) | (simp [*]; done)), (by first | rfl | (simp; done) | (simp only [← hji33] <;> (first | rfl | simp)) | (simp [*]; done)), (by first | rfl | (simp; done) | (simp [*]; done)), H', ⟨by have := HK1.out; have := HK2.out; have := HJ14.out; have := HK4.out; have := HK5.out; omega⟩, ⟨by (with_reducible repeat (first | apply Kd.R_alloc | apply Kd.R_drewN | apply Kd.R_drew)); exact Kd.R_mono HO222.out (fun _ hk => trivial)⟩, ⟨by repeat (first | (with_reducible first | exact HB.out | apply below_alloc | apply pw_below_drewN | apply below_drew1) | exact HB.out)⟩⟩
                                                        · rw [if_neg c40] at H
                                                          exact absurd H (by simp)
                                                      · rw [if_neg c37] at H
                                                        exact absurd H (by simp)
                                                    · rw [if_neg c36] at H
                                                      exact absurd H (by simp)
                                                  · rw [if_neg c35] at H
                                                    exact absurd H (by simp)
                                                · rw [if_neg c34] at H
                                                  exact absurd H (by simp)
                                              · replace c32 := Bool.eq_false_iff.mpr c32
                                                subst c32
                                                have H1 : (some (([] : List Int), 8)) = some (r1, r2) := by rw [if_neg (show ¬ (false = true) by decide)] at H; exact H
                                                clear H
                                                have H := H1
                                                clear H1
                                                simp only [Option.some.injEq, Prod.mk.injEq] at H
                                                obtain ⟨rfl, rfl⟩ := H
                                                have p21 : 0 ≤ (x8_5 : Int) := of_decide_eq_true (by first | (with_reducible assumption) | assumption)
                                                have q21 : x8_5 < (a0.size : Int) := of_decide_eq_true (by first | (with_reducible assumption) | assumption)
                                                have hx21 := bt_at a0 x8_5
                                                replace p21 := eq_true p21
                                                replace q21 := eq_true q21
                                                go_wp2_with (first | ((with_reducible refine gate_callee (f := 29) rfl ?_); refine goesL_ (some 68) rfl rfl Try.func29 (by kernel_rfl) rfl #[.int .u8 (bt a0 x8_5)] rfl (by (try simp only [List.map_toArray, List.map_cons, List.map_nil]); first | done | rfl | (simp only [List.length_drop, List.length_take]; rfl)) ?_; (with_reducible refine (portcullisref05_digit.calls k5 (bt a0 x8_5) t202 _ A22.out).mono ?_); rintro e w' ⟨rfl, ⟨nd, rfl⟩⟩; refine ⟨_, rfl, ?_⟩) | ((with_reducible refine gate_callee (f := 22) rfl ?_); refine goesL_ (some 82) rfl rfl Try.func22 (by kernel_rfl) rfl #[.int .i64 x14_5, .int .i64 x11_4] rfl (by (try simp only [List.map_toArray, List.map_cons, List.map_nil]); first | done | rfl | (simp only [List.length_drop, List.length_take]; rfl)) ?_; (with_reducible refine (portcullisref05_threshold.calls x14_5 x11_4 t203 _ A25.out).mono ?_); rintro e w' ⟨rfl, ⟨nd, rfl⟩⟩; refine ⟨_, rfl, ?_⟩; obtain ⟨Ao47, co47, eo47⟩ := Kd.R_slice HO_6.out; subst eo47) | ((with_reducible refine gate_callee (f := 12) rfl ?_); refine goesL_ (some 101) rfl rfl Try.func12 (by kernel_rfl) rfl #[.int .i64 (wrap64 ((wrap64 (x10_5 + (wrap64 (t202 * x13_5)))) - x10_4)), .int .i64 (wrap64 ((x6_4.length : Int) + 1)), .bool (x10_4 == 0)] rfl (by (try simp only [List.map_toArray, List.map_cons, List.map_nil]); first | done | rfl | (simp only [List.length_drop, List.length_take]; rfl)) ?_; (with_reducible refine (portcullisref05_Adapt.calls k5 (wrap64 ((wrap64 (x10_5 + (wrap64 (t202 * x13_5)))) - x10_4)) (wrap64 ((x6_4.length : Int) + 1)) (x10_4 == 0) t204 _ A27.out).mono ?_); rintro e w' ⟨rfl, ⟨nd, rfl⟩⟩; refine ⟨_, rfl, ?_⟩) | (go_at_call 21; (with_reducible refine (portcullisref01_Scalar.calls (wrap32 (wrap64 (x9_4 + (wrap64 (Int.tdiv (wrap64 (x10_5 + (wrap64 (t202 * x13_5)))) (wrap64 ((x6_4.length : Int) + 1))))))) false _ A31.out).mono ?_); rintro e w' ⟨rfl, ⟨nd, rfl⟩⟩))
                                                go_ret2
                                                exact ⟨_, by first | rfl | (simp [errW_none, errW_some] <;> rfl) | (simp [*, errW_none, errW_some] <;> rfl), by first | exact Kd.R_nil _ _ _ _ _ | exact Kd.N_nil _ _ _ _ _ | exact Kd.V_nil _ _ _ _ _ | exact Kd.Q_nil _ _ _ _ _ | exact Kd.S_nil _ _ _ _ _, by repeat (first | (with_reducible first | exact HB.out | apply below_alloc | apply pw_below_drewN | apply below_drew1) | exact HB.out)⟩
                                        · rw [if_neg c26] at H
                                          have c26b0 : decide (t202 < t203) = false := decide_eq_false c26
                                          clear c26
                                          by_cases c48 : (wrap64 (x13_5 * (wrap64 (36 - t203)))) > 2147483647
                                          · rw [if_pos c48] at H
                                            have c48b0 : decide (2147483647 < (wrap64 (x13_5 * (wrap64 (36 - t203))))) = true := decide_eq_true c48
                                            clear c48
                                            simp only [Option.some.injEq, Prod.mk.injEq] at H
                                            obtain ⟨rfl, rfl⟩ := H
                                            have p21 : 0 ≤ (x8_5 : Int) := of_decide_eq_true (by first | (with_reducible assumption) | assumption)
                                            have q21 : x8_5 < (a0.size : Int) := of_decide_eq_true (by first | (with_reducible assumption) | assumption)
                                            have hx21 := bt_at a0 x8_5
                                            replace p21 := eq_true p21
                                            replace q21 := eq_true q21
                                            go_wp2_with (first | ((with_reducible refine gate_callee (f := 29) rfl ?_); refine goesL_ (some 68) rfl rfl Try.func29 (by kernel_rfl) rfl #[.int .u8 (bt a0 x8_5)] rfl (by (try simp only [List.map_toArray, List.map_cons, List.map_nil]); first | done | rfl | (simp only [List.length_drop, List.length_take]; rfl)) ?_; (with_reducible refine (portcullisref05_digit.calls k5 (bt a0 x8_5) t202 _ A22.out).mono ?_); rintro e w' ⟨rfl, ⟨nd, rfl⟩⟩; refine ⟨_, rfl, ?_⟩) | ((with_reducible refine gate_callee (f := 22) rfl ?_); refine goesL_ (some 82) rfl rfl Try.func22 (by kernel_rfl) rfl #[.int .i64 x14_5, .int .i64 x11_4] rfl (by (try simp only [List.map_toArray, List.map_cons, List.map_nil]); first | done | rfl | (simp only [List.length_drop, List.length_take]; rfl)) ?_; (with_reducible refine (portcullisref05_threshold.calls x14_5 x11_4 t203 _ A25.out).mono ?_); rintro e w' ⟨rfl, ⟨nd, rfl⟩⟩; refine ⟨_, rfl, ?_⟩))
                                            go_ret2
                                            exact ⟨_, by first | rfl | (simp [errW_none, errW_some] <;> rfl) | (simp [*, errW_none, errW_some] <;> rfl), by first | exact Kd.R_nil _ _ _ _ _ | exact Kd.N_nil _ _ _ _ _ | exact Kd.V_nil _ _ _ _ _ | exact Kd.Q_nil _ _ _ _ _ | exact Kd.S_nil _ _ _ _ _, by repeat (first | (with_reducible first | exact HB.out | apply below_alloc | apply pw_below_drewN | apply below_drew1) | exact HB.out)⟩
                                          · rw [if_neg c48] at H
                                            have c48b0 : decide (2147483647 < (wrap64 (x13_5 * (wrap64 (36 - t203))))) = false := decide_eq_false c48
                                            clear c48
                                            have H' := Aside0.mk H
                                            clear H
                                            have p21 : 0 ≤ (x8_5 : Int) := of_decide_eq_true (by first | (with_reducible assumption) | assumption)
                                            have q21 : x8_5 < (a0.size : Int) := of_decide_eq_true (by first | (with_reducible assumption) | assumption)
                                            have hx21 := bt_at a0 x8_5
                                            replace p21 := eq_true p21
                                            replace q21 := eq_true q21
                                            go_wp2_with (first | ((with_reducible refine gate_callee (f := 29) rfl ?_); refine goesL_ (some 68) rfl rfl Try.func29 (by kernel_rfl) rfl #[.int .u8 (bt a0 x8_5)] rfl (by (try simp only [List.map_toArray, List.map_cons, List.map_nil]); first | done | rfl | (simp only [List.length_drop, List.length_take]; rfl)) ?_; (with_reducible refine (portcullisref05_digit.calls k5 (bt a0 x8_5) t202 _ A22.out).mono ?_); rintro e w' ⟨rfl, ⟨nd, rfl⟩⟩; refine ⟨_, rfl, ?_⟩) | ((with_reducible refine gate_callee (f := 22) rfl ?_); refine goesL_ (some 82) rfl rfl Try.func22 (by kernel_rfl) rfl #[.int .i64 x14_5, .int .i64 x11_4] rfl (by (try simp only [List.map_toArray, List.map_cons, List.map_nil]); first | done | rfl | (simp only [List.length_drop, List.length_take]; rfl)) ?_; (with_reducible refine (portcullisref05_threshold.calls x14_5 x11_4 t203 _ A25.out).mono ?_); rintro e w' ⟨rfl, ⟨nd, rfl⟩⟩; refine ⟨_, rfl, ?_⟩))
                                            go_roundg k5
                                            case measure => have := HK1.out; have := HK2.out; have := HJ14.out; have := HK4.out; have := HK5.out; omega
                                            case rel => exact ⟨(wrap64 (x8_5 + 1)), (wrap64 (x10_5 + (wrap64 (t202 * x13_5)))), (wrap64 (x13_5 * (wrap64 (36 - t203)))), (wrap64 (x14_5 + 36)), (by first | rfl | (simp; done) | (simp [*]; done)), (by first | rfl | (simp; done) | (simp [*]; done)), (by first | rfl | (simp; done) | (simp [*]; done)), (by first | rfl | (simp; done) | (simp [*]; done)), H', ⟨by have := HK1.out; have := HK2.out; have := HJ14.out; have := HK4.out; have := HK5.out; omega⟩, ⟨by (with_reducible repeat (first | apply Kd.R_alloc | apply Kd.R_drewN | apply Kd.R_drew)); exact HO_6.out⟩, ⟨by repeat (first | (with_reducible first | exact HB.out | apply below_alloc | apply pw_below_drewN | apply below_drew1) | exact HB.out)⟩⟩
                                  · rw [if_neg c20] at H
                                    exact absurd H (by simp)
                                · rw [if_neg c19] at H
                                  exact absurd H (by simp)
                        · rw [if_neg c17] at H
                          have c17b0 : decide (x8_4 < (a0.size : Int)) = false := decide_eq_false c17
                          clear c17
                          simp only [Option.some.injEq, Prod.mk.injEq] at H
                          obtain ⟨rfl, rfl⟩ := H
                          go_wp2
                          go_ret2
                          exact ⟨_, by first | rfl | (simp [errW_none, errW_some] <;> rfl) | (simp [*, errW_none, errW_some] <;> rfl), by (with_reducible repeat (first | apply Kd.R_alloc | apply Kd.R_drewN | apply Kd.R_drew)); exact HO_6.out, by repeat (first | (with_reducible first | exact HB.out | apply below_alloc | apply pw_below_drewN | apply below_drew1) | exact HB.out)⟩

end Go.Proofs.Ytmhlagakimckjaa.Q

import Derived.Test.YtfndanccnjggfaaDoorZRD
import Derived.Lib.MapLaws
import Derived.Lib.ValidLaws
import Derived.Lib.QuoteLoop
-- Written by this session's program (a turned print).
namespace Go.Proofs.YtfndanccnjggfaaDoor.Q
open Go.RowKit Go.Proofs.YtfndanccnjggfaaDoorW.PrintWords Go.Proofs.YtfndanccnjggfaaDoorW.PrintLast Go.Proofs.YtfndanccnjggfaaDoorW.PrintMore
attribute [local go_sem] max2_int min2_int max_two min_two max_three min_three max_four min_four   -- for this text's walks alone
set_option linter.unusedVariables false
set_option linter.unusedSimpArgs false
/-! ### portcullisref15_Lex: function 9 -/
mutual
def portcullisref15_Lex.l0 : Nat → ByteArray → List (S36) → Int → Int → Int → Option ((List (S36)) × Int × Int × Int)
  | 0, _, _, _, _, _ => none
  | k + 1, x0, x4, x5, x6, x7 => if x7 ≤ (x0.size : Int) then (if x7 < (x0.size : Int) then (if 0 ≤ x7 then (if (bt x0 x7) = 10 then (if x7 = (x0.size : Int) then (portcullisref15_Lex.j1 k x0 x4 x5 x6 x7 (x6 == (x0.size : Int))) else (portcullisref15_Lex.j1 k x0 x4 x5 x6 x7 false)) else (portcullisref15_Lex.j1 k x0 x4 x5 x6 x7 true)) else (none)) else (if x7 = (x0.size : Int) then (portcullisref15_Lex.j1 k x0 x4 x5 x6 x7 (x6 == (x0.size : Int))) else (portcullisref15_Lex.j1 k x0 x4 x5 x6 x7 false))) else (some (x4, 0, 0, 0))
def portcullisref15_Lex.j1 : Nat → ByteArray → List (S36) → Int → Int → Int → Bool → Option ((List (S36)) × Int × Int × Int)
  | 0, _, _, _, _, _, _ => none
  | k + 1, x0, x4, x5, x6, x7, x42 => if x42 = true then (portcullisref15_Lex.l0 k x0 x4 x5 x6 (wrap64 (x7 + 1))) else (if 0 ≤ x6 then (if x6 ≤ x7 then (if x7 ≤ (x0.size : Int) then (if x7 < (x0.size : Int) then (if (x0.extract (x6 : Int).toNat (x7 : Int).toNat).toList = ([] : List UInt8) then (portcullisref15_Lex.j2 k x0 x4 x5 x7 (x0.extract (x6 : Int).toNat (x7 : Int).toNat) false) else (if 0 ≤ (wrap64 (((x0.extract (x6 : Int).toNat (x7 : Int).toNat).size : Int) - 1)) then (if (wrap64 (((x0.extract (x6 : Int).toNat (x7 : Int).toNat).size : Int) - 1)) < ((x0.extract (x6 : Int).toNat (x7 : Int).toNat).size : Int) then (portcullisref15_Lex.j2 k x0 x4 x5 x7 (x0.extract (x6 : Int).toNat (x7 : Int).toNat) ((bt (x0.extract (x6 : Int).toNat (x7 : Int).toNat) (wrap64 (((x0.extract (x6 : Int).toNat (x7 : Int).toNat).size : Int) - 1))) == 13)) else (none)) else (none))) else (portcullisref15_Lex.j2 k x0 x4 x5 x7 (x0.extract (x6 : Int).toNat (x7 : Int).toNat) false)) else (none)) else (none)) else (none))
def portcullisref15_Lex.j2 : Nat → ByteArray → List (S36) → Int → Int → ByteArray → Bool → Option ((List (S36)) × Int × Int × Int)
  | 0, _, _, _, _, _, _ => none
  | k + 1, x0, x4, x5, x7, x8, x62 => if x62 = true then (if 0 ≤ (wrap64 ((x8.size : Int) - 1)) then (if (wrap64 ((x8.size : Int) - 1)) ≤ (x8.size : Int) then ((portcullisref15_line.f k (x8.extract 0 ((wrap64 ((x8.size : Int) - 1)) : Int).toNat) x5).bind fun bt183 => (if bt183.2.1 = 0 then (if x4.length + bt183.1.length < 3518437208883 then (portcullisref15_Lex.l0 k x0 (x4 ++ bt183.1) (wrap64 (x5 + 1)) (wrap64 (x7 + 1)) (wrap64 (x7 + 1))) else (none)) else (some (([] : List (S36)), bt183.2.1, bt183.2.2.1, bt183.2.2.2)))) else (none)) else (none)) else ((portcullisref15_line.f k x8 x5).bind fun bt193 => (if bt193.2.1 = 0 then (if x4.length + bt193.1.length < 3518437208883 then (portcullisref15_Lex.l0 k x0 (x4 ++ bt193.1) (wrap64 (x5 + 1)) (wrap64 (x7 + 1)) (wrap64 (x7 + 1))) else (none)) else (some (([] : List (S36)), bt193.2.1, bt193.2.2.1, bt193.2.2.2))))
end
def portcullisref15_Lex.f (k : Nat) (a0 : ByteArray) : Option ((List (S36)) × Int × Int × Int) := if (a0.size : Int) > 65536 then (some (([] : List (S36)), 4, 0, 0)) else (portcullisref15_Lex.l0 k a0 ([] : List (S36)) 1 0 0)
theorem portcullisref15_Lex.mono_l : ∀ k, (∀ y0 y1 y2 y3 y4, LeO (portcullisref15_Lex.l0 k y0 y1 y2 y3 y4) (portcullisref15_Lex.l0 (k + 1) y0 y1 y2 y3 y4)) ∧ (∀ y0 y1 y2 y3 y4 y5, LeO (portcullisref15_Lex.j1 k y0 y1 y2 y3 y4 y5) (portcullisref15_Lex.j1 (k + 1) y0 y1 y2 y3 y4 y5)) ∧ (∀ y0 y1 y2 y3 y4 y5, LeO (portcullisref15_Lex.j2 k y0 y1 y2 y3 y4 y5) (portcullisref15_Lex.j2 (k + 1) y0 y1 y2 y3 y4 y5))
  | 0 => ⟨fun _ _ _ _ _ r h => by simp [portcullisref15_Lex.l0] at h, fun _ _ _ _ _ _ r h => by simp [portcullisref15_Lex.j1] at h, fun _ _ _ _ _ _ r h => by simp [portcullisref15_Lex.j2] at h⟩
  | k + 1 => by
    obtain ⟨ih0, ih1, ih2⟩ := portcullisref15_Lex.mono_l k
    refine ⟨?_, ?_, ?_⟩
    · intro y0 y1 y2 y3 y4
      unfold portcullisref15_Lex.l0
      repeat' first
      | (with_reducible exact ih0 _ _ _ _ _)
      | (with_reducible exact ih1 _ _ _ _ _ _)
      | (with_reducible exact ih2 _ _ _ _ _ _)
      | (with_reducible exact portcullisref15_line.mono _ _ _)
      | (with_reducible exact LeO.refl _)
      | (with_reducible exact LeO.none _)
      | (with_reducible refine LeO.ite ?_ ?_)
      | (with_reducible refine LeO.bind ?_ (fun _ => ?_))
      | exact ih0 _ _ _ _ _
      | exact ih1 _ _ _ _ _ _
      | exact ih2 _ _ _ _ _ _
      | exact portcullisref15_line.mono _ _ _
      | exact LeO.none _
      | refine LeO.ite ?_ ?_
      | refine LeO.bind ?_ (fun _ => ?_)
    · intro y0 y1 y2 y3 y4 y5
      unfold portcullisref15_Lex.j1
      repeat' first
      | (with_reducible exact ih0 _ _ _ _ _)
      | (with_reducible exact ih1 _ _ _ _ _ _)
      | (with_reducible exact ih2 _ _ _ _ _ _)
      | (with_reducible exact portcullisref15_line.mono _ _ _)
      | (with_reducible exact LeO.refl _)
      | (with_reducible exact LeO.none _)
      | (with_reducible refine LeO.ite ?_ ?_)
      | (with_reducible refine LeO.bind ?_ (fun _ => ?_))
      | exact ih0 _ _ _ _ _
      | exact ih1 _ _ _ _ _ _
      | exact ih2 _ _ _ _ _ _
      | exact portcullisref15_line.mono _ _ _
      | exact LeO.none _
      | refine LeO.ite ?_ ?_
      | refine LeO.bind ?_ (fun _ => ?_)
    · intro y0 y1 y2 y3 y4 y5
      unfold portcullisref15_Lex.j2
      repeat' first
      | (with_reducible exact ih0 _ _ _ _ _)
      | (with_reducible exact ih1 _ _ _ _ _ _)
      | (with_reducible exact ih2 _ _ _ _ _ _)
      | (with_reducible exact portcullisref15_line.mono _ _ _)
      | (with_reducible exact LeO.refl _)
      | (with_reducible exact LeO.none _)
      | (with_reducible refine LeO.ite ?_ ?_)
      | (with_reducible refine LeO.bind ?_ (fun _ => ?_))
      | exact ih0 _ _ _ _ _
      | exact ih1 _ _ _ _ _ _
      | exact ih2 _ _ _ _ _ _
      | exact portcullisref15_line.mono _ _ _
      | exact LeO.none _
      | refine LeO.ite ?_ ?_
      | refine LeO.bind ?_ (fun _ => ?_)
theorem portcullisref15_Lex.mono : ∀ a0 k, LeO (portcullisref15_Lex.f k a0) (portcullisref15_Lex.f (k + 1) a0) := by
  intro a0 k
  obtain ⟨ih0, ih1, ih2⟩ := portcullisref15_Lex.mono_l k
  unfold portcullisref15_Lex.f
  repeat' first
      | (with_reducible exact ih0 _ _ _ _ _)
      | (with_reducible exact ih1 _ _ _ _ _ _)
      | (with_reducible exact ih2 _ _ _ _ _ _)
      | (with_reducible exact portcullisref15_line.mono _ _ _)
      | (with_reducible exact LeO.refl _)
      | (with_reducible exact LeO.none _)
      | (with_reducible refine LeO.ite ?_ ?_)
      | (with_reducible refine LeO.bind ?_ (fun _ => ?_))
      | exact ih0 _ _ _ _ _
      | exact ih1 _ _ _ _ _ _
      | exact ih2 _ _ _ _ _ _
      | exact portcullisref15_line.mono _ _ _
      | exact LeO.none _
      | refine LeO.ite ?_ ?_
      | refine LeO.bind ?_ (fun _ => ?_)
set_option maxHeartbeats 8000000 in
set_option maxRecDepth 100000 in
theorem portcullisref15_Lex.calls (k : Nat) (a0 : ByteArray) (r1 : List (S36)) (r2 : Int) (r3 : Int) (r4 : Int) (w : World) (h : portcullisref15_Lex.f k a0 = some (r1, r2, r3, r4)) :
    Calls Tryd.prog 9 #[.string a0] w fun e w' => ∃ v0_ : Value, e = .returned (.tuple #[v0_, .agg #[.int .i64 r2, .int .i64 r3, .int .i64 r4]]) ∧ Kd.R k36 36 w' w.heap.size (fun _ => True) v0_ r1 ∧ Below w.heap.size w w' := by
  have hu26 := Tryd.underlying26
  have HB := Aside0.mk (Below.refl w.heap.size w)
  have H : (if (a0.size : Int) > 65536 then (some (([] : List (S36)), 4, 0, 0)) else (portcullisref15_Lex.l0 k a0 ([] : List (S36)) 1 0 0)) = some (r1, r2, r3, r4) := h
  clear h
  by_cases c2 : (a0.size : Int) > 65536
  · rw [if_pos c2] at H
    have c2b0 : decide (65536 < (a0.size : Int)) = true := decide_eq_true c2
    have c2b1 : decide (65536 < a0.size) = true := decide_eq_true (by omega)
    have c2b2 : 65536 < a0.size := by omega
    clear c2
    simp only [Option.some.injEq, Prod.mk.injEq] at H
    obtain ⟨rfl, rfl, rfl, rfl⟩ := H
    go_enter Tryd.func9, Tryd.ntmps9
    go_wp2_with (first | ((with_reducible refine gate_dst (N := 3) rfl ?_); (try (refine gate_guard (by rfl) ?_; dsimp only)); refine box_event ?hg (N := 3) ?hd (cs := #[.int .i64 0, .int .i64 0, .int .i64 0]) (t := 26) ?hr ?_; (case hd => rfl); (case hg => rfl); (case hr => first | (go_simp; done) | (go_simp; rfl)); intro gb182 hg w3 hbox hb; have n0_ := Aside0.mk (below_step (by repeat (first | (with_reducible first | exact HB.out | apply below_alloc | apply pw_below_drewN | apply below_drew1) | exact HB.out)) hb); have n1_ := Aside0.mk (hbox); have n2_ := Aside0.mk ((by rw [hg]; exact (below_size (by repeat (first | (with_reducible first | exact HB.out | apply below_alloc | apply pw_below_drewN | apply below_drew1) | exact HB.out))) : w.heap.size ≤ gb182)); have n3_ := Aside0.mk ((by rw [hg]; exact (below_size (by repeat (first | (with_reducible first | exact HB.out | apply below_alloc | apply pw_below_drewN | apply below_drew1) | exact HB.out))) : w.heap.size ≤ gb182)); clear HB; have HB := n0_; have BK182 := n1_; have GW182 := n2_; have GE182 := n3_; clear n0_ n1_ n2_ n3_; clear hb hbox hg; have hcz4_0 : w3.cell? ⟨gb182, 0, none⟩ = some (.int .i64 0) := (blk_cell BK182.out 0).trans rfl; have hcz4_1 : w3.cell? ⟨gb182, 1, none⟩ = some (.int .i64 0) := (blk_cell BK182.out 1).trans rfl; have hcz4_2 : w3.cell? ⟨gb182, 2, none⟩ = some (.int .i64 0) := (blk_cell BK182.out 2).trans rfl; have hfz4_0 := blk_frozen BK182.out 0; have hfz4_1 := blk_frozen BK182.out 1; have hfz4_2 := blk_frozen BK182.out 2))
    refine bodyPost_ret (results_tc rfl _ _ gb182 26 #[.int .i64 4, .int .i64 0, .int .i64 0] (0, 0) _ rfl (by (with_reducible repeat (first | refine blk_drewN ?_ _ | refine blk_drew ?_ | refine blk_alloc ?_ _)); refine blk_put (cs := #[.int .i64 4, .int .i64 0, .int .i64 0]) ?_ 2 _ rfl; (with_reducible repeat (first | refine blk_drewN ?_ _ | refine blk_drew ?_ | refine blk_alloc ?_ _)); refine blk_put (cs := #[.int .i64 4, .int .i64 0, .int .i64 0]) ?_ 1 _ rfl; (with_reducible repeat (first | refine blk_drewN ?_ _ | refine blk_drew ?_ | refine blk_alloc ?_ _)); refine blk_put (cs := #[.int .i64 0, .int .i64 0, .int .i64 0]) ?_ 0 _ rfl; (with_reducible repeat (first | refine blk_drewN ?_ _ | refine blk_drew ?_ | refine blk_alloc ?_ _)); exact BK182.out) Tryd.underlying26 rfl (by kernel_rfl)) rfl ?_
    exact ⟨_, by first | rfl | (simp [errW_none, errW_some] <;> rfl) | (simp [*, errW_none, errW_some] <;> rfl), by first | exact Kd.R_nil _ _ _ _ _ | exact Kd.N_nil _ _ _ _ _ | exact Kd.V_nil _ _ _ _ _ | exact Kd.Q_nil _ _ _ _ _ | exact Kd.S_nil _ _ _ _ _, by repeat (first | (with_reducible first | exact HB.out | apply below_alloc | apply pw_below_drewN | apply below_drew1 | refine below_set ?_ GE182.out) | exact HB.out)⟩
  · rw [if_neg c2] at H
    have c2b0 : decide (65536 < (a0.size : Int)) = false := decide_eq_false c2
    have c2b1 : decide (65536 < a0.size) = false := decide_eq_false (by omega)
    have c2b2 : a0.size ≤ 65536 := by omega
    clear c2
    have H' := Aside0.mk H
    clear H
    go_enter Tryd.func9, Tryd.ntmps9
    go_wp2_with (first | ((with_reducible refine gate_dst (N := 3) rfl ?_); (try (refine gate_guard (by rfl) ?_; dsimp only)); refine box_event ?hg (N := 3) ?hd (cs := #[.int .i64 0, .int .i64 0, .int .i64 0]) (t := 26) ?hr ?_; (case hd => rfl); (case hg => rfl); (case hr => first | (go_simp; done) | (go_simp; rfl)); intro gb182 hg w5 hbox hb; have n0_ := Aside0.mk (below_step (by repeat (first | (with_reducible first | exact HB.out | apply below_alloc | apply pw_below_drewN | apply below_drew1) | exact HB.out)) hb); have n1_ := Aside0.mk (hbox); have n2_ := Aside0.mk ((by rw [hg]; exact (below_size (by repeat (first | (with_reducible first | exact HB.out | apply below_alloc | apply pw_below_drewN | apply below_drew1) | exact HB.out))) : w.heap.size ≤ gb182)); have n3_ := Aside0.mk ((by rw [hg]; exact (below_size (by repeat (first | (with_reducible first | exact HB.out | apply below_alloc | apply pw_below_drewN | apply below_drew1) | exact HB.out))) : w.heap.size ≤ gb182)); clear HB; have HB := n0_; have BK182 := n1_; have GW182 := n2_; have GE182 := n3_; clear n0_ n1_ n2_ n3_; clear hb hbox hg))
    go_loopg [4, 5, 6, 7] k (fun kq v4 v5 v6 v7 w' => ∃ (x4_1 : List (S36)) (x5_1 : Int) (x6_1 : Int) (x7_1 : Int) (x183000_1 : Int) (x183001_1 : Int) (x183002_1 : Int), v5 = .int .i64 x5_1 ∧ v6 = .int .i64 x6_1 ∧ v7 = .int .i64 x7_1 ∧ Aside0 (portcullisref15_Lex.l0 kq a0 x4_1 x5_1 x6_1 x7_1 = some (r1, r2, r3, r4)) ∧ Aside0 (kq ≤ k) ∧ Aside0 (Kd.R k36 36 w' w.heap.size (fun _ => True) v4 x4_1) ∧ Aside0 (w'.heap[gb182]? = some (.cells #[.int .i64 x183000_1, .int .i64 x183001_1, .int .i64 x183002_1] 26 (0, 0))) ∧ Aside0 (Below w.heap.size w w'))
    case atStart => exact ⟨(([] : List (S36))), (1), (0), (0), (0), (0), (0), (by first | rfl | (simp; done) | (simp [*]; done)), (by first | rfl | (simp; done) | (simp [*]; done)), (by first | rfl | (simp; done) | (simp [*]; done)), H', ⟨Nat.le_refl _⟩, ⟨by first | exact Kd.R_nil _ _ _ _ _ | exact Kd.N_nil _ _ _ _ _ | exact Kd.V_nil _ _ _ _ _ | exact Kd.Q_nil _ _ _ _ _ | exact Kd.S_nil _ _ _ _ _⟩, ⟨by (with_reducible repeat (first | refine blk_drewN ?_ _ | refine blk_drew ?_ | refine blk_alloc ?_ _)); exact BK182.out⟩, ⟨by repeat (first | (with_reducible first | exact HB.out | apply below_alloc | apply pw_below_drewN | apply below_drew1 | refine below_set ?_ GE182.out) | exact HB.out)⟩⟩
    case round =>
      clear H'
      try clear c2
      try clear c2b0
      try clear c2b1
      try clear c2b2
      try clear p2
      try clear hcz4_0
      try clear hcz4_1
      try clear hcz4_2
      try clear hfz4_0
      try clear hfz4_1
      try clear hfz4_2
      obtain ⟨x4_1, x5_1, x6_1, x7_1, x183000_1, x183001_1, x183002_1, rfl, rfl, rfl, HA, HK1, HO_4, BK182, HB⟩ := hrel
      cases gk with
      | zero => exact absurd HA.out (by simp [portcullisref15_Lex.l0])
      | succ k1 =>
        have H := HA.out
        clear HA
        simp only [portcullisref15_Lex.l0] at H
        by_cases c6 : x7_1 ≤ (a0.size : Int)
        · rw [if_pos c6] at H
          have c6b0 : decide (x7_1 ≤ (a0.size : Int)) = true := decide_eq_true c6
          clear c6
          have HC7 := Aside0.mk H
          clear H
          go_upto_region 9 with (fail)
          go_cut [42] (fun v42 wc => ∃ (kq : Nat) (x42_6 : Bool), v42 = .bool x42_6 ∧ Aside0 (portcullisref15_Lex.j1 kq a0 x4_1 x5_1 x6_1 x7_1 x42_6 = some (r1, r2, r3, r4)) ∧ Aside0 (kq ≤ k1) ∧ Aside0 (Kd.R k36 36 wc w.heap.size (fun _ => True) u4 x4_1) ∧ Aside0 (wc.heap[gb182]? = some (.cells #[.int .i64 x183000_1, .int .i64 x183001_1, .int .i64 x183002_1] 26 (0, 0))) ∧ Aside0 (Below w.heap.size w wc))
          case first =>
            have H := HC7.out
            clear HC7
            by_cases c8 : x7_1 < (a0.size : Int)
            · rw [if_pos c8] at H
              have c8b0 : decide (x7_1 < (a0.size : Int)) = true := decide_eq_true c8
              clear c8
              (first | rw [c8b0] | (simp only [i64_w, i32_w]; rw [c8b0]) | skip)
              by_cases c9 : 0 ≤ x7_1
              · rw [if_pos c9] at H
                have c9b0 : decide (0 ≤ x7_1) = true := decide_eq_true c9
                clear c9
                by_cases c11 : (bt a0 x7_1) = 10
                · rw [if_pos c11] at H
                  have c11b0 : ((bt a0 x7_1) == 10) = true := beq_iff_eq.mpr c11
                  have c11b1 : ((bt a0 x7_1) != 10) = false := bne_eq_false_iff_eq.mpr c11
                  clear c11
                  by_cases c12 : x7_1 = (a0.size : Int)
                  · rw [if_pos c12] at H
                    have c12b0 : (x7_1 == (a0.size : Int)) = true := beq_iff_eq.mpr c12
                    have c12b1 : (x7_1 != (a0.size : Int)) = false := bne_eq_false_iff_eq.mpr c12
                    clear c12
                    have H' := Aside0.mk H
                    clear H
                    have p10 : 0 ≤ (x7_1 : Int) := of_decide_eq_true (by first | (with_reducible assumption) | assumption)
                    have q10 : x7_1 < (a0.size : Int) := of_decide_eq_true (by first | (with_reducible assumption) | assumption)
                    have hx10 := bt_at a0 x7_1
                    replace p10 := eq_true p10
                    replace q10 := eq_true q10
                    go_wp2
                    go_meet
                    case rel => exact ⟨_, ((x6_1 == (a0.size : Int))), (by first | rfl | (simp; done) | (simp [*]; done)), H', ⟨by have := HK1.out; first | omega | exact Nat.le_refl _⟩, ⟨by (with_reducible repeat (first | apply Kd.R_alloc | apply Kd.R_drewN | apply Kd.R_drew)); exact HO_4.out⟩, ⟨by (with_reducible repeat (first | refine blk_drewN ?_ _ | refine blk_drew ?_ | refine blk_alloc ?_ _)); exact BK182.out⟩, ⟨by repeat (first | (with_reducible first | exact HB.out | apply below_alloc | apply pw_below_drewN | apply below_drew1 | refine below_set ?_ GE182.out) | exact HB.out)⟩⟩
                  · rw [if_neg c12] at H
                    have c12b0 : (x7_1 == (a0.size : Int)) = false := beq_eq_false_iff_ne.mpr c12
                    have c12b1 : (x7_1 != (a0.size : Int)) = true := bne_iff_ne.mpr c12
                    have H' := Aside0.mk H
                    clear H
                    have p10 : 0 ≤ (x7_1 : Int) := of_decide_eq_true (by first | (with_reducible assumption) | assumption)
                    have q10 : x7_1 < (a0.size : Int) := of_decide_eq_true (by first | (with_reducible assumption) | assumption)
                    have hx10 := bt_at a0 x7_1
                    replace p10 := eq_true p10
                    replace q10 := eq_true q10
                    go_wp2
                    go_meet
                    case rel => exact ⟨_, (false), (by first | rfl | (simp; done) | (simp [*]; done)), H', ⟨by have := HK1.out; first | omega | exact Nat.le_refl _⟩, ⟨by (with_reducible repeat (first | apply Kd.R_alloc | apply Kd.R_drewN | apply Kd.R_drew)); exact HO_4.out⟩, ⟨by (with_reducible repeat (first | refine blk_drewN ?_ _ | refine blk_drew ?_ | refine blk_alloc ?_ _)); exact BK182.out⟩, ⟨by repeat (first | (with_reducible first | exact HB.out | apply below_alloc | apply pw_below_drewN | apply below_drew1 | refine below_set ?_ GE182.out) | exact HB.out)⟩⟩
                · rw [if_neg c11] at H
                  have c11b0 : ((bt a0 x7_1) == 10) = false := beq_eq_false_iff_ne.mpr c11
                  have c11b1 : ((bt a0 x7_1) != 10) = true := bne_iff_ne.mpr c11
                  have H' := Aside0.mk H
                  clear H
                  have p10 : 0 ≤ (x7_1 : Int) := of_decide_eq_true (by first | (with_reducible assumption) | assumption)
                  have q10 : x7_1 < (a0.size : Int) := of_decide_eq_true (by first | (with_reducible assumption) | assumption)
                  have hx10 := bt_at a0 x7_1
                  replace p10 := eq_true p10
                  replace q10 := eq_true q10
                  go_wp2
                  go_meet
                  case rel => exact ⟨_, (true), (by first | rfl | (simp; done) | (simp [*]; done)), H', ⟨by have := HK1.out; first | omega | exact Nat.le_refl _⟩, ⟨by (with_reducible repeat (first | apply Kd.R_alloc | apply Kd.R_drewN | apply Kd.R_drew)); exact HO_4.out⟩, ⟨by (with_reducible repeat (first | refine blk_drewN ?_ _ | refine blk_drew ?_ | refine blk_alloc ?_ _)); exact BK182.out⟩, ⟨by repeat (first | (with_reducible first | exact HB.out | apply below_alloc | apply pw_below_drewN | apply below_drew1 | refine below_set ?_ GE182.out) | exact HB.out)⟩⟩
              · rw [if_neg c9] at H
                exact absurd H (by simp)
            · rw [if_neg c8] at H
              have c8b0 : decide (x7_1 < (a0.size : Int)) = false := decide_eq_false c8
              clear c8
              (first | rw [c8b0] | (simp only [i64_w, i32_w]; rw [c8b0]) | skip)
              by_cases c13 : x7_1 = (a0.size : Int)
              · rw [if_pos c13] at H
                have c13b0 : (x7_1 == (a0.size : Int)) = true := beq_iff_eq.mpr c13
                have c13b1 : (x7_1 != (a0.size : Int)) = false := bne_eq_false_iff_eq.mpr c13
                clear c13
                have H' := Aside0.mk H
                clear H
                go_wp2
                go_meet
                case rel => exact ⟨_, ((x6_1 == (a0.size : Int))), (by first | rfl | (simp; done) | (simp [*]; done)), H', ⟨by have := HK1.out; first | omega | exact Nat.le_refl _⟩, ⟨by (with_reducible repeat (first | apply Kd.R_alloc | apply Kd.R_drewN | apply Kd.R_drew)); exact HO_4.out⟩, ⟨by (with_reducible repeat (first | refine blk_drewN ?_ _ | refine blk_drew ?_ | refine blk_alloc ?_ _)); exact BK182.out⟩, ⟨by repeat (first | (with_reducible first | exact HB.out | apply below_alloc | apply pw_below_drewN | apply below_drew1 | refine below_set ?_ GE182.out) | exact HB.out)⟩⟩
              · rw [if_neg c13] at H
                have c13b0 : (x7_1 == (a0.size : Int)) = false := beq_eq_false_iff_ne.mpr c13
                have c13b1 : (x7_1 != (a0.size : Int)) = true := bne_iff_ne.mpr c13
                have H' := Aside0.mk H
                clear H
                go_wp2
                go_meet
                case rel => exact ⟨_, (false), (by first | rfl | (simp; done) | (simp [*]; done)), H', ⟨by have := HK1.out; first | omega | exact Nat.le_refl _⟩, ⟨by (with_reducible repeat (first | apply Kd.R_alloc | apply Kd.R_drewN | apply Kd.R_drew)); exact HO_4.out⟩, ⟨by (with_reducible repeat (first | refine blk_drewN ?_ _ | refine blk_drew ?_ | refine blk_alloc ?_ _)); exact BK182.out⟩, ⟨by repeat (first | (with_reducible first | exact HB.out | apply below_alloc | apply pw_below_drewN | apply below_drew1 | refine below_set ?_ GE182.out) | exact HB.out)⟩⟩
          case rest =>
            clear HC7
            try clear c1
            try clear p1
            try clear q1
            try clear hx1
            try clear c2
            try clear c2b0
            try clear c2b1
            try clear c2b2
            try clear p2
            try clear c6
            try clear c6b0
            try clear c8
            try clear c8b0
            try clear c9
            try clear c9b0
            try clear p10
            try clear q10
            try clear hx10
            try clear c11
            try clear c11b0
            try clear c11b1
            try clear c12
            try clear c12b0
            try clear c12b1
            try clear c13
            try clear c13b0
            try clear c13b1
            try clear hcz4_0
            try clear hcz4_1
            try clear hcz4_2
            try clear hfz4_0
            try clear hfz4_1
            try clear hfz4_2
            try clear p10
            try clear p2
            try clear q10
            obtain ⟨kq, x42_6, rfl, HA, HJ6, HO_4, BK182, HB⟩ := hcut
            cases kq with
            | zero => exact absurd HA.out (by simp [portcullisref15_Lex.j1])
            | succ kj6 =>
              have H := HA.out
              clear HA
              simp only [portcullisref15_Lex.j1] at H
              by_cases c14 : x42_6 = true
              · subst c14
                have H1 : (portcullisref15_Lex.l0 kj6 a0 x4_1 x5_1 x6_1 (wrap64 (x7_1 + 1))) = some (r1, r2, r3, r4) := by rw [if_pos rfl] at H; exact H
                clear H
                have H := H1
                clear H1
                have H' := Aside0.mk H
                clear H
                go_wp2
                go_roundg kj6
                case measure => have := HK1.out; have := HJ6.out; omega
                case rel => exact ⟨(x4_1), (x5_1), (x6_1), (wrap64 (x7_1 + 1)), (x183000_1), (x183001_1), (x183002_1), (by first | rfl | (simp; done) | (simp [*]; done)), (by first | rfl | (simp; done) | (simp [*]; done)), (by first | rfl | (simp; done) | (simp [*]; done)), H', ⟨by have := HK1.out; have := HJ6.out; omega⟩, ⟨by (with_reducible repeat (first | apply Kd.R_alloc | apply Kd.R_drewN | apply Kd.R_drew)); exact HO_4.out⟩, ⟨by (with_reducible repeat (first | refine blk_drewN ?_ _ | refine blk_drew ?_ | refine blk_alloc ?_ _)); exact BK182.out⟩, ⟨by repeat (first | (with_reducible first | exact HB.out | apply below_alloc | apply pw_below_drewN | apply below_drew1 | refine below_set ?_ GE182.out) | exact HB.out)⟩⟩
              · replace c14 := Bool.eq_false_iff.mpr c14
                subst c14
                have H1 : (if 0 ≤ x6_1 then (if x6_1 ≤ x7_1 then (if x7_1 ≤ (a0.size : Int) then (if x7_1 < (a0.size : Int) then (if (a0.extract (x6_1 : Int).toNat (x7_1 : Int).toNat).toList = ([] : List UInt8) then (portcullisref15_Lex.j2 kj6 a0 x4_1 x5_1 x7_1 (a0.extract (x6_1 : Int).toNat (x7_1 : Int).toNat) false) else (if 0 ≤ (wrap64 (((a0.extract (x6_1 : Int).toNat (x7_1 : Int).toNat).size : Int) - 1)) then (if (wrap64 (((a0.extract (x6_1 : Int).toNat (x7_1 : Int).toNat).size : Int) - 1)) < ((a0.extract (x6_1 : Int).toNat (x7_1 : Int).toNat).size : Int) then (portcullisref15_Lex.j2 kj6 a0 x4_1 x5_1 x7_1 (a0.extract (x6_1 : Int).toNat (x7_1 : Int).toNat) ((bt (a0.extract (x6_1 : Int).toNat (x7_1 : Int).toNat) (wrap64 (((a0.extract (x6_1 : Int).toNat (x7_1 : Int).toNat).size : Int) - 1))) == 13)) else (none)) else (none))) else (portcullisref15_Lex.j2 kj6 a0 x4_1 x5_1 x7_1 (a0.extract (x6_1 : Int).toNat (x7_1 : Int).toNat) false)) else (none)) else (none)) else (none)) = some (r1, r2, r3, r4) := by rw [if_neg (show ¬ (false = true) by decide)] at H; exact H
                clear H
                have H := H1
                clear H1
                by_cases c15 : 0 ≤ x6_1
                · rw [if_pos c15] at H
                  have c15b0 := eq_true c15
                  have c15b1 : decide (0 ≤ x6_1) = true := decide_eq_true c15
                  clear c15
                  by_cases c16 : x6_1 ≤ x7_1
                  · rw [if_pos c16] at H
                    have c16b0 := eq_true c16
                    have c16b1 : decide (x6_1 ≤ x7_1) = true := decide_eq_true c16
                    clear c16
                    by_cases c17 : x7_1 ≤ (a0.size : Int)
                    · rw [if_pos c17] at H
                      have c17b0 := eq_true c17
                      have c17b1 : decide (x7_1 ≤ (a0.size : Int)) = true := decide_eq_true c17
                      clear c17
                      have HC18 := Aside0.mk H
                      clear H
                      go_upto_region 11 with (fail)
                      generalize hcut1_ : a0.extract (x6_1 : Int).toNat (x7_1 : Int).toNat = cut1_ at HC18 ⊢
                      go_cut [62] (fun v62 wc => ∃ (kq : Nat) (x62_17 : Bool), v62 = .bool x62_17 ∧ Aside0 (portcullisref15_Lex.j2 kq a0 x4_1 x5_1 x7_1 cut1_ x62_17 = some (r1, r2, r3, r4)) ∧ Aside0 (kq ≤ kj6) ∧ Aside0 (Kd.R k36 36 wc w.heap.size (fun _ => True) u4 x4_1) ∧ Aside0 (wc.heap[gb182]? = some (.cells #[.int .i64 x183000_1, .int .i64 x183001_1, .int .i64 x183002_1] 26 (0, 0))) ∧ Aside0 (Below w.heap.size w wc))
                      case first =>
                        have H := HC18.out
                        clear HC18
                        by_cases c19 : x7_1 < (a0.size : Int)
                        · rw [if_pos c19] at H
                          have c19b0 : decide (x7_1 < (a0.size : Int)) = true := decide_eq_true c19
                          clear c19
                          (first | rw [c19b0] | (simp only [i64_w, i32_w]; rw [c19b0]) | skip)
                          by_cases c20 : cut1_.toList = ([] : List UInt8)
                          · rw [if_pos c20] at H
                            have c20b0 : (cut1_.toList == ([] : List UInt8)) = true := beq_iff_eq.mpr c20
                            have c20b1 : (cut1_.toList != ([] : List UInt8)) = false := bne_eq_false_iff_eq.mpr c20
                            clear c20
                            have H' := Aside0.mk H
                            clear H
                            go_wp2
                            go_meet
                            case rel => exact ⟨_, (false), (by first | rfl | (simp; done) | (simp [*]; done)), H', ⟨by have := HK1.out; have := HJ6.out; first | omega | exact Nat.le_refl _⟩, ⟨by (with_reducible repeat (first | apply Kd.R_alloc | apply Kd.R_drewN | apply Kd.R_drew)); exact HO_4.out⟩, ⟨by (with_reducible repeat (first | refine blk_drewN ?_ _ | refine blk_drew ?_ | refine blk_alloc ?_ _)); exact BK182.out⟩, ⟨by repeat (first | (with_reducible first | exact HB.out | apply below_alloc | apply pw_below_drewN | apply below_drew1 | refine below_set ?_ GE182.out) | exact HB.out)⟩⟩
                          · rw [if_neg c20] at H
                            have c20b0 : (cut1_.toList == ([] : List UInt8)) = false := beq_eq_false_iff_ne.mpr c20
                            have c20b1 : (cut1_.toList != ([] : List UInt8)) = true := bne_iff_ne.mpr c20
                            obtain ⟨ji21, hji21⟩ : ∃ j_ : Int, (wrap64 ((cut1_.size : Int) - 1)) = j_ := ⟨_, rfl⟩
                            replace H : (if 0 ≤ (ji21) then (if (ji21) < (cut1_.size : Int) then (portcullisref15_Lex.j2 kj6 a0 x4_1 x5_1 x7_1 cut1_ ((bt cut1_ (ji21)) == 13)) else (none)) else (none)) = some (r1, r2, r3, r4) := by first | (rw [hji21] at H; exact H) | (simp only [hji21] at H ⊢; exact H)
                            have hji21w : (IntKind.i64.wrap ((cut1_.size : Int) - 1)) = ji21 := (i64_w _).trans hji21
                            by_cases c22 : 0 ≤ (ji21)
                            · rw [if_pos c22] at H
                              have c22b0 : decide (0 ≤ (ji21)) = true := decide_eq_true c22
                              clear c22
                              by_cases c23 : (ji21) < (cut1_.size : Int)
                              · rw [if_pos c23] at H
                                have c23b0 : decide ((ji21) < (cut1_.size : Int)) = true := decide_eq_true c23
                                clear c23
                                have H' := Aside0.mk H
                                clear H
                                have p24 : 0 ≤ ((ji21) : Int) := of_decide_eq_true (by first | (with_reducible assumption) | assumption)
                                have q24 : (ji21) < (cut1_.size : Int) := of_decide_eq_true (by first | (with_reducible assumption) | assumption)
                                have hx24 := bt_at cut1_ (ji21)
                                replace p24 := eq_true p24
                                replace q24 := eq_true q24
                                go_wp2
                                go_meet
                                case rel => exact ⟨_, (((bt cut1_ (ji21)) == 13)), (by first | rfl | (simp; done) | (simp only [← hji21] <;> (first | rfl | simp)) | (simp [*]; done)), H', ⟨by have := HK1.out; have := HJ6.out; first | omega | exact Nat.le_refl _⟩, ⟨by (with_reducible repeat (first | apply Kd.R_alloc | apply Kd.R_drewN | apply Kd.R_drew)); exact HO_4.out⟩, ⟨by (with_reducible repeat (first | refine blk_drewN ?_ _ | refine blk_drew ?_ | refine blk_alloc ?_ _)); exact BK182.out⟩, ⟨by repeat (first | (with_reducible first | exact HB.out | apply below_alloc | apply pw_below_drewN | apply below_drew1 | refine below_set ?_ GE182.out) | exact HB.out)⟩⟩
                              · rw [if_neg c23] at H
                                exact absurd H (by simp)
                            · rw [if_neg c22] at H
                              exact absurd H (by simp)
                        · rw [if_neg c19] at H
                          have c19b0 : decide (x7_1 < (a0.size : Int)) = false := decide_eq_false c19
                          clear c19
                          (first | rw [c19b0] | (simp only [i64_w, i32_w]; rw [c19b0]) | skip)
                          have H' := Aside0.mk H
                          clear H
                          go_wp2
                          go_meet
                          case rel => exact ⟨_, (false), (by first | rfl | (simp; done) | (simp [*]; done)), H', ⟨by have := HK1.out; have := HJ6.out; first | omega | exact Nat.le_refl _⟩, ⟨by (with_reducible repeat (first | apply Kd.R_alloc | apply Kd.R_drewN | apply Kd.R_drew)); exact HO_4.out⟩, ⟨by (with_reducible repeat (first | refine blk_drewN ?_ _ | refine blk_drew ?_ | refine blk_alloc ?_ _)); exact BK182.out⟩, ⟨by repeat (first | (with_reducible first | exact HB.out | apply below_alloc | apply pw_below_drewN | apply below_drew1 | refine below_set ?_ GE182.out) | exact HB.out)⟩⟩
                      case rest =>
                        clear HC18
                        try clear c1
                        try clear p1
                        try clear q1
                        try clear hx1
                        try clear c2
                        try clear c2b0
                        try clear c2b1
                        try clear c2b2
                        try clear p2
                        try clear q2
                        try clear hx2
                        try clear c6
                        try clear c6b0
                        try clear p6
                        try clear c8
                        try clear c8b0
                        try clear c9
                        try clear c9b0
                        try clear p10
                        try clear q10
                        try clear hx10
                        try clear c11
                        try clear c11b0
                        try clear c11b1
                        try clear c12
                        try clear c12b0
                        try clear c12b1
                        try clear c13
                        try clear c13b0
                        try clear c13b1
                        try clear c14
                        try clear c15
                        try clear c15b0
                        try clear c15b1
                        try clear c16
                        try clear c16b0
                        try clear c16b1
                        try clear c17
                        try clear c17b0
                        try clear c17b1
                        try clear c19
                        try clear c19b0
                        try clear c20
                        try clear c20b0
                        try clear c20b1
                        try clear c22
                        try clear c22b0
                        try clear c23
                        try clear c23b0
                        try clear p24
                        try clear q24
                        try clear hx24
                        try clear hcz4_0
                        try clear hcz4_1
                        try clear hcz4_2
                        try clear hfz4_0
                        try clear hfz4_1
                        try clear hfz4_2
                        try clear p1
                        try clear p10
                        try clear p2
                        try clear p24
                        try clear q1
                        try clear q10
                        try clear q24
                        obtain ⟨kq, x62_17, rfl, HA, HJ17, HO_4, BK182, HB⟩ := hcut
                        cases kq with
                        | zero => exact absurd HA.out (by simp [portcullisref15_Lex.j2])
                        | succ kj17 =>
                          have H := HA.out
                          clear HA
                          simp only [portcullisref15_Lex.j2] at H
                          by_cases c25 : x62_17 = true
                          · subst c25
                            have H1 : (if 0 ≤ (wrap64 ((cut1_.size : Int) - 1)) then (if (wrap64 ((cut1_.size : Int) - 1)) ≤ (cut1_.size : Int) then ((portcullisref15_line.f kj17 (cut1_.extract 0 ((wrap64 ((cut1_.size : Int) - 1)) : Int).toNat) x5_1).bind fun bt183 => (if bt183.2.1 = 0 then (if x4_1.length + bt183.1.length < 3518437208883 then (portcullisref15_Lex.l0 kj17 a0 (x4_1 ++ bt183.1) (wrap64 (x5_1 + 1)) (wrap64 (x7_1 + 1)) (wrap64 (x7_1 + 1))) else (none)) else (some (([] : List (S36)), bt183.2.1, bt183.2.2.1, bt183.2.2.2)))) else (none)) else (none)) = some (r1, r2, r3, r4) := by rw [if_pos rfl] at H; exact H
                            clear H
                            have H := H1
                            clear H1
                            obtain ⟨ji26, hji26⟩ : ∃ j_ : Int, (wrap64 ((cut1_.size : Int) - 1)) = j_ := ⟨_, rfl⟩
                            replace H : (if 0 ≤ (ji26) then (if (ji26) ≤ (cut1_.size : Int) then ((portcullisref15_line.f kj17 (cut1_.extract 0 ((ji26) : Int).toNat) x5_1).bind fun bt183 => (if bt183.2.1 = 0 then (if x4_1.length + bt183.1.length < 3518437208883 then (portcullisref15_Lex.l0 kj17 a0 (x4_1 ++ bt183.1) (wrap64 (x5_1 + 1)) (wrap64 (x7_1 + 1)) (wrap64 (x7_1 + 1))) else (none)) else (some (([] : List (S36)), bt183.2.1, bt183.2.2.1, bt183.2.2.2)))) else (none)) else (none)) = some (r1, r2, r3, r4) := by first | (rw [hji26] at H; exact H) | (simp only [hji26] at H ⊢; exact H)
                            have hji26w : (IntKind.i64.wrap ((cut1_.size : Int) - 1)) = ji26 := (i64_w _).trans hji26
                            by_cases c27 : 0 ≤ (ji26)
                            · rw [if_pos c27] at H
                              have c27b0 := eq_true c27
                              have c27b1 : decide (0 ≤ (ji26)) = true := decide_eq_true c27
                              clear c27
                              by_cases c28 : (ji26) ≤ (cut1_.size : Int)
                              · rw [if_pos c28] at H
                                have c28b0 := eq_true c28
                                have c28b1 : decide ((ji26) ≤ (cut1_.size : Int)) = true := decide_eq_true c28
                                clear c28
                                replace H := Option.bind_eq_some_iff.mp H
                                obtain ⟨⟨t183, t186, t187, t188⟩, A290, H⟩ := H
                                replace H : (if t186 = 0 then (if x4_1.length + t183.length < 3518437208883 then (portcullisref15_Lex.l0 kj17 a0 (x4_1 ++ t183) (wrap64 (x5_1 + 1)) (wrap64 (x7_1 + 1)) (wrap64 (x7_1 + 1))) else (none)) else (some (([] : List (S36)), t186, t187, t188))) = some (r1, r2, r3, r4) := H
                                have A29 := Aside0.mk A290
                                clear A290
                                by_cases c30 : t186 = 0
                                · rw [if_pos c30] at H
                                  have c30b0 : (t186 == 0) = true := beq_iff_eq.mpr c30
                                  have c30b1 : (t186 != 0) = false := bne_eq_false_iff_eq.mpr c30
                                  clear c30
                                  by_cases c31 : x4_1.length + t183.length < 3518437208883
                                  · rw [if_pos c31] at H
                                    have LMc31 := Aside0.mk c31
                                    clear c31
                                    obtain ⟨y190, hy190⟩ : ∃ y_ : List (S36), y_ = (x4_1 ++ t183) := ⟨_, rfl⟩
                                    replace H : (portcullisref15_Lex.l0 kj17 a0 y190 (wrap64 (x5_1 + 1)) (wrap64 (x7_1 + 1)) (wrap64 (x7_1 + 1))) = some (r1, r2, r3, r4) := by first | (rw [hy190]; with_reducible exact H) | (have H2_ := (Option.bind_some _ _).symm.trans H; rw [hy190]; with_reducible exact H2_) | (have H2_ := (Option.bind_some _ _).symm.trans H; with_reducible exact H2_) | with_reducible exact H | (rw [hy190]; exact H) | exact H
                                    have Ny190 := Aside0.mk hy190
                                    clear hy190
                                    have H' := Aside0.mk H
                                    clear H
                                    go_wp2_with (first | ((with_reducible refine gate_callee (f := 20) rfl ?_); refine goesL_ (some 71) rfl rfl Tryd.func20 (by kernel_rfl) rfl #[.string (cut1_.extract 0 ((ji26) : Int).toNat), .int .i64 x5_1] rfl (by (try simp only [List.map_toArray, List.map_cons, List.map_nil]); first | done | (simp only [hji26]; rfl) | rfl | (simp only [List.length_drop, List.length_take]; rfl)) ?_; (with_reducible refine (portcullisref15_line.calls kj17 (cut1_.extract 0 ((ji26) : Int).toNat) x5_1 t183 t186 t187 t188 _ A29.out).mono ?_); rintro e w32 ⟨v184, rfl, ho0, hb⟩; refine ⟨_, rfl, ?_⟩; have n0_ := Aside0.mk (Kd.R_elder' (by (with_reducible repeat (first | apply Kd.R_alloc | apply Kd.R_drewN | apply Kd.R_drew)); exact HO_4.out) (Kd.R_base ho0) hb); have n1_ := Aside0.mk (Kd.R_lower (Kd.R_new' ho0 (Kd.R_lt (by (with_reducible repeat (first | apply Kd.R_alloc | apply Kd.R_drewN | apply Kd.R_drew)); exact HO_4.out))) (below_size (by repeat (first | (with_reducible first | exact HB.out | apply below_alloc | apply pw_below_drewN | apply below_drew1 | refine below_set ?_ GE182.out) | exact HB.out)))); have n2_ := Aside0.mk (blk_below (g := gb182) (o := .cells #[.int .i64 x183000_1, .int .i64 x183001_1, .int .i64 x183002_1] 26 (0, 0)) (by (with_reducible repeat (first | refine blk_drewN ?_ _ | refine blk_drew ?_ | refine blk_alloc ?_ _)); exact BK182.out) hb); have n3_ := Aside0.mk (below_step (by repeat (first | (with_reducible first | exact HB.out | apply below_alloc | apply pw_below_drewN | apply below_drew1 | refine below_set ?_ GE182.out) | exact HB.out)) hb); clear HO_4; clear BK182; clear HB; have HO_4 := n0_; have HO185 := n1_; have BK182 := n2_; have HB := n3_; clear n0_ n1_ n2_ n3_; (try clear hb); (try clear hb2); (try clear hk); (try clear hi); (try clear ho0)) | ((with_reducible refine gate_dst (N := 10) rfl ?_); (try (refine gate_guard (by rfl) ?_; dsimp only)); refine box_event ?hg (N := 10) ?hd (cs := #[.int .i64 0, .int .i64 0, .int .i64 0]) (t := 26) ?hr ?_; (case hd => rfl); (case hg => rfl); (case hr => first | (go_simp; done) | (go_simp; rfl)); intro gb189 hg w33 hbox hb; have n0_ := Aside0.mk (Kd.R_below (by (with_reducible repeat (first | apply Kd.R_alloc | apply Kd.R_drewN | apply Kd.R_drew)); exact HO_4.out) hb); have n1_ := Aside0.mk (Kd.R_below (by (with_reducible repeat (first | apply Kd.R_alloc | apply Kd.R_drewN | apply Kd.R_drew)); exact HO185.out) hb); have n2_ := Aside0.mk (blk_below (g := gb182) (o := .cells #[.int .i64 x183000_1, .int .i64 x183001_1, .int .i64 x183002_1] 26 (0, 0)) (by (with_reducible repeat (first | refine blk_drewN ?_ _ | refine blk_drew ?_ | refine blk_alloc ?_ _)); exact BK182.out) hb); have n3_ := Aside0.mk (below_step (by repeat (first | (with_reducible first | exact HB.out | apply below_alloc | apply pw_below_drewN | apply below_drew1 | refine below_set ?_ GE182.out) | exact HB.out)) hb); have n4_ := Aside0.mk (hbox); have n5_ := Aside0.mk ((by rw [hg]; exact (below_size (by repeat (first | (with_reducible first | exact HB.out | apply below_alloc | apply pw_below_drewN | apply below_drew1 | refine below_set ?_ GE182.out) | exact HB.out))) : w.heap.size ≤ gb189)); have n6_ := Aside0.mk ((by rw [hg]; exact (below_size (by repeat (first | (with_reducible first | exact HB.out | apply below_alloc | apply pw_below_drewN | apply below_drew1 | refine below_set ?_ GE182.out) | exact HB.out))) : w.heap.size ≤ gb189)); have n7_ := Aside0.mk ((by rw [hg]; exact Nat.ne_of_lt (blk_lt (g := gb182) (o := .cells #[.int .i64 x183000_1, .int .i64 x183001_1, .int .i64 x183002_1] 26 (0, 0)) (by (with_reducible repeat (first | refine blk_drewN ?_ _ | refine blk_drew ?_ | refine blk_alloc ?_ _)); exact BK182.out)) : gb182 ≠ gb189)); have n8_ := Aside0.mk ((by rw [hg]; exact Nat.ne_of_gt (blk_lt (g := gb182) (o := .cells #[.int .i64 x183000_1, .int .i64 x183001_1, .int .i64 x183002_1] 26 (0, 0)) (by (with_reducible repeat (first | refine blk_drewN ?_ _ | refine blk_drew ?_ | refine blk_alloc ?_ _)); exact BK182.out)) : gb189 ≠ gb182)); clear HO_4; clear HO185; clear BK182; clear HB; have HO_4 := n0_; have HO185 := n1_; have BK182 := n2_; have HB := n3_; have BK189 := n4_; have GW189 := n5_; have GE189 := n6_; have NB182_189 := n7_; have NB189_182 := n8_; clear n0_ n1_ n2_ n3_ n4_ n5_ n6_ n7_ n8_; clear hb hbox hg; have hnb34 := NB189_182.out; have hnc34 := NB182_189.out; have hcz35_0 : w33.cell? ⟨gb189, 0, none⟩ = some (.int .i64 0) := (blk_cell BK189.out 0).trans rfl; have hcz35_1 : w33.cell? ⟨gb189, 1, none⟩ = some (.int .i64 0) := (blk_cell BK189.out 1).trans rfl; have hcz35_2 : w33.cell? ⟨gb189, 2, none⟩ = some (.int .i64 0) := (blk_cell BK189.out 2).trans rfl; have hfz35_0 := blk_frozen BK189.out 0; have hfz35_1 := blk_frozen BK189.out 1; have hfz35_2 := blk_frozen BK189.out 2; obtain ⟨Ao37, co37, eo37⟩ := Kd.R_slice HO185.out; subst eo37) | ((with_reducible refine gate_builtin (b := .append) (xs := #[.tmp 78, .tmp 79]) rfl ?_); (try (refine gate_guard (by rfl) ?_; dsimp only)); at_builtin; refine Kd.R_append_rows k36 (w0 := w) w.heap.size rfl (.tmp 78) (.tmp 79) 23 36 (.agg #[(.int .u8 0), (.string ⟨#[]⟩), (.int .i64 0), (.int .i64 0)]) 40 rfl Tryd.underlying23 info36 rfl (by decide) (by omega) u4 x4_1 t183 _ _ _ (fun k_ => some k_ ≠ (.slice Ao37 t183.length co37 : Value).ownBlock) (fun _ => False) rfl rfl ?aO ?aR (fun _ _ h => h) (fun _ h => h.elim) ?aF ?aB ?aS ?aL ?_; (case aR => refine (Kd.R_reads' (e := 36) (base := w.heap.size) (ok := fun k_ => (True ∧ some k_ ≠ (u4 : Value).ownBlock)) (n := t183.length) (c := co37) ?_).2.2; exact (by (with_reducible repeat (first | apply Kd.R_alloc | apply Kd.R_drewN | apply Kd.R_drew)); exact (Kd.R_mono (Kd.R_far (p := ⟨gb189, 2, none⟩) (Kd.R_far (p := ⟨gb189, 1, none⟩) (Kd.R_far (p := ⟨gb189, 0, none⟩) (Kd.R_types HO185.out BK189.out (by decide)) (fun _ hk => hk.2) (.int .i64 t186)) (fun _ hk => hk.2) (.int .i64 t187)) (fun _ hk => hk.2) (.int .i64 t188)) (fun _ h_ => h_.1)))); (case aB => exact (by repeat (first | (with_reducible first | exact HB.out | apply below_alloc | apply pw_below_drewN | apply below_drew1 | refine below_set ?_ GE182.out | refine below_set ?_ GE189.out) | exact HB.out))); (case aF => exact (fun k_ hk => Kd.fresh' (Kd.R_lt (by (with_reducible repeat (first | apply Kd.R_alloc | apply Kd.R_drewN | apply Kd.R_drew)); exact (Kd.R_mono (Kd.R_far (p := ⟨gb189, 2, none⟩) (Kd.R_far (p := ⟨gb189, 1, none⟩) (Kd.R_far (p := ⟨gb189, 0, none⟩) (Kd.R_types HO185.out BK189.out (by decide)) (fun _ hk => hk.2) (.int .i64 t186)) (fun _ hk => hk.2) (.int .i64 t187)) (fun _ hk => hk.2) (.int .i64 t188)) (fun _ h_ => h_.1)))) k_ hk)); (case aO => exact (by (with_reducible repeat (first | apply Kd.R_alloc | apply Kd.R_drewN | apply Kd.R_drew)); exact Kd.R_mono (Kd.R_far (p := ⟨gb189, 2, none⟩) (Kd.R_far (p := ⟨gb189, 1, none⟩) (Kd.R_far (p := ⟨gb189, 0, none⟩) (Kd.R_types HO_4.out BK189.out (by decide)) (fun _ hk => hk.2) (.int .i64 t186)) (fun _ hk => hk.2) (.int .i64 t187)) (fun _ hk => hk.2) (.int .i64 t188)) (fun _ hk => hk.1.2))); (case aS => exact (below_size (by repeat (first | (with_reducible first | exact HB.out | apply below_alloc | apply pw_below_drewN | apply below_drew1 | refine below_set ?_ GE182.out | refine below_set ?_ GE189.out) | exact HB.out)))); (case aL => have := LMc31.out; omega); intro v191 w36 ho hb hg hat; rw [← Ny190.out] at ho; have n0_ := Aside0.mk (blk_grown (g := gb182) (o := .cells #[.int .i64 x183000_1, .int .i64 x183001_1, .int .i64 x183002_1] 26 (0, 0)) (by (with_reducible repeat (first | refine blk_drewN ?_ _ | refine blk_drew ?_ | refine blk_alloc ?_ _)); refine blk_far ?_ NB182_189.out _; (with_reducible repeat (first | refine blk_drewN ?_ _ | refine blk_drew ?_ | refine blk_alloc ?_ _)); refine blk_far ?_ NB182_189.out _; (with_reducible repeat (first | refine blk_drewN ?_ _ | refine blk_drew ?_ | refine blk_alloc ?_ _)); refine blk_far ?_ NB182_189.out _; (with_reducible repeat (first | refine blk_drewN ?_ _ | refine blk_drew ?_ | refine blk_alloc ?_ _)); exact BK182.out) hg (Kd.R_ne HO_4.out BK182.out (by decide))); have n1_ := Aside0.mk (Kd.R_after (ok := (fun _ => True)) (by (with_reducible repeat (first | apply Kd.R_alloc | apply Kd.R_drewN | apply Kd.R_drew)); exact Kd.R_mono (Kd.R_far (p := ⟨gb189, 2, none⟩) (Kd.R_far (p := ⟨gb189, 1, none⟩) (Kd.R_far (p := ⟨gb189, 0, none⟩) (Kd.R_types HO185.out BK189.out (by decide)) (fun _ hk => hk.2) (.int .i64 t186)) (fun _ hk => hk.2) (.int .i64 t187)) (fun _ hk => hk.2) (.int .i64 t188)) (fun _ hk => ⟨trivial, hk.1.2⟩)) hg hat); have n2_ := Aside0.mk (blk_grown (g := gb189) (o := .cells #[.int .i64 t186, .int .i64 t187, .int .i64 t188] 26 (0, 0)) (by (with_reducible repeat (first | refine blk_drewN ?_ _ | refine blk_drew ?_ | refine blk_alloc ?_ _)); refine blk_put (cs := #[.int .i64 t186, .int .i64 t187, .int .i64 0]) ?_ 2 _ rfl; (with_reducible repeat (first | refine blk_drewN ?_ _ | refine blk_drew ?_ | refine blk_alloc ?_ _)); refine blk_put (cs := #[.int .i64 t186, .int .i64 0, .int .i64 0]) ?_ 1 _ rfl; (with_reducible repeat (first | refine blk_drewN ?_ _ | refine blk_drew ?_ | refine blk_alloc ?_ _)); refine blk_put (cs := #[.int .i64 0, .int .i64 0, .int .i64 0]) ?_ 0 _ rfl; (with_reducible repeat (first | refine blk_drewN ?_ _ | refine blk_drew ?_ | refine blk_alloc ?_ _)); exact BK189.out) hg (Kd.R_ne HO_4.out BK189.out (by decide))); have n3_ := Aside0.mk (hb); have n4_ := Aside0.mk (ho); clear BK182; clear HO185; clear BK189; clear HB; clear HO_4; have BK182 := n0_; have HO185 := n1_; have BK189 := n2_; have HB := n3_; have HO192 := n4_; clear n0_ n1_ n2_ n3_ n4_; clear ho hb hg hat))
                                    go_roundg kj17
                                    case measure => have := HK1.out; have := HJ6.out; have := HJ17.out; omega
                                    case rel => exact ⟨(y190), (wrap64 (x5_1 + 1)), (wrap64 (x7_1 + 1)), (wrap64 (x7_1 + 1)), (x183000_1), (x183001_1), (x183002_1), (by first | rfl | (simp; done) | (simp [*]; done)), (by first | rfl | (simp; done) | (simp [*]; done)), (by first | rfl | (simp; done) | (simp [*]; done)), H', ⟨by have := HK1.out; have := HJ6.out; have := HJ17.out; omega⟩, ⟨by (with_reducible repeat (first | apply Kd.R_alloc | apply Kd.R_drewN | apply Kd.R_drew)); exact Kd.R_mono HO192.out (fun _ hk => trivial)⟩, ⟨by (with_reducible repeat (first | refine blk_drewN ?_ _ | refine blk_drew ?_ | refine blk_alloc ?_ _)); exact BK182.out⟩, ⟨by repeat (first | (with_reducible first | exact HB.out | apply below_alloc | apply pw_below_drewN | apply below_drew1 | refine below_set ?_ GE182.out | refine below_set ?_ GE189.out) | exact HB.out)⟩⟩
                                  · rw [if_neg c31] at H
                                    exact absurd H (by simp)
                                · rw [if_neg c30] at H
                                  have c30b0 : (t186 == 0) = false := beq_eq_false_iff_ne.mpr c30
                                  have c30b1 : (t186 != 0) = true := bne_iff_ne.mpr c30
                                  simp only [Option.some.injEq, Prod.mk.injEq] at H
                                  obtain ⟨rfl, rfl, rfl, rfl⟩ := H
                                  try go_wp2_with (first | ((with_reducible refine gate_callee (f := 20) rfl ?_); refine goesL_ (some 71) rfl rfl Tryd.func20 (by kernel_rfl) rfl #[.string (cut1_.extract 0 ((ji26) : Int).toNat), .int .i64 x5_1] rfl (by (try simp only [List.map_toArray, List.map_cons, List.map_nil]); first | done | (simp only [hji26]; rfl) | rfl | (simp only [List.length_drop, List.length_take]; rfl)) ?_; (with_reducible refine (portcullisref15_line.calls kj17 (cut1_.extract 0 ((ji26) : Int).toNat) x5_1 t183 t186 t187 t188 _ A29.out).mono ?_); rintro e w38 ⟨v184, rfl, ho0, hb⟩; refine ⟨_, rfl, ?_⟩; have n0_ := Aside0.mk (Kd.R_elder' (by (with_reducible repeat (first | apply Kd.R_alloc | apply Kd.R_drewN | apply Kd.R_drew)); exact HO_4.out) (Kd.R_base ho0) hb); have n1_ := Aside0.mk (Kd.R_lower (Kd.R_new' ho0 (Kd.R_lt (by (with_reducible repeat (first | apply Kd.R_alloc | apply Kd.R_drewN | apply Kd.R_drew)); exact HO_4.out))) (below_size (by repeat (first | (with_reducible first | exact HB.out | apply below_alloc | apply pw_below_drewN | apply below_drew1 | refine below_set ?_ GE182.out) | exact HB.out)))); have n2_ := Aside0.mk (blk_below (g := gb182) (o := .cells #[.int .i64 x183000_1, .int .i64 x183001_1, .int .i64 x183002_1] 26 (0, 0)) (by (with_reducible repeat (first | refine blk_drewN ?_ _ | refine blk_drew ?_ | refine blk_alloc ?_ _)); exact BK182.out) hb); have n3_ := Aside0.mk (below_step (by repeat (first | (with_reducible first | exact HB.out | apply below_alloc | apply pw_below_drewN | apply below_drew1 | refine below_set ?_ GE182.out) | exact HB.out)) hb); clear HO_4; clear BK182; clear HB; have HO_4 := n0_; have HO185 := n1_; have BK182 := n2_; have HB := n3_; clear n0_ n1_ n2_ n3_; (try clear hb); (try clear hb2); (try clear hk); (try clear hi); (try clear ho0)) | ((with_reducible refine gate_dst (N := 10) rfl ?_); (try (refine gate_guard (by rfl) ?_; dsimp only)); refine box_event ?hg (N := 10) ?hd (cs := #[.int .i64 0, .int .i64 0, .int .i64 0]) (t := 26) ?hr ?_; (case hd => rfl); (case hg => rfl); (case hr => first | (go_simp; done) | (go_simp; rfl)); intro gb189 hg w39 hbox hb; have n0_ := Aside0.mk (Kd.R_below (by (with_reducible repeat (first | apply Kd.R_alloc | apply Kd.R_drewN | apply Kd.R_drew)); exact HO_4.out) hb); have n1_ := Aside0.mk (Kd.R_below (by (with_reducible repeat (first | apply Kd.R_alloc | apply Kd.R_drewN | apply Kd.R_drew)); exact HO185.out) hb); have n2_ := Aside0.mk (blk_below (g := gb182) (o := .cells #[.int .i64 x183000_1, .int .i64 x183001_1, .int .i64 x183002_1] 26 (0, 0)) (by (with_reducible repeat (first | refine blk_drewN ?_ _ | refine blk_drew ?_ | refine blk_alloc ?_ _)); exact BK182.out) hb); have n3_ := Aside0.mk (below_step (by repeat (first | (with_reducible first | exact HB.out | apply below_alloc | apply pw_below_drewN | apply below_drew1 | refine below_set ?_ GE182.out) | exact HB.out)) hb); have n4_ := Aside0.mk (hbox); have n5_ := Aside0.mk ((by rw [hg]; exact (below_size (by repeat (first | (with_reducible first | exact HB.out | apply below_alloc | apply pw_below_drewN | apply below_drew1 | refine below_set ?_ GE182.out) | exact HB.out))) : w.heap.size ≤ gb189)); have n6_ := Aside0.mk ((by rw [hg]; exact (below_size (by repeat (first | (with_reducible first | exact HB.out | apply below_alloc | apply pw_below_drewN | apply below_drew1 | refine below_set ?_ GE182.out) | exact HB.out))) : w.heap.size ≤ gb189)); have n7_ := Aside0.mk ((by rw [hg]; exact Nat.ne_of_lt (blk_lt (g := gb182) (o := .cells #[.int .i64 x183000_1, .int .i64 x183001_1, .int .i64 x183002_1] 26 (0, 0)) (by (with_reducible repeat (first | refine blk_drewN ?_ _ | refine blk_drew ?_ | refine blk_alloc ?_ _)); exact BK182.out)) : gb182 ≠ gb189)); have n8_ := Aside0.mk ((by rw [hg]; exact Nat.ne_of_gt (blk_lt (g := gb182) (o := .cells #[.int .i64 x183000_1, .int .i64 x183001_1, .int .i64 x183002_1] 26 (0, 0)) (by (with_reducible repeat (first | refine blk_drewN ?_ _ | refine blk_drew ?_ | refine blk_alloc ?_ _)); exact BK182.out)) : gb189 ≠ gb182)); clear HO_4; clear HO185; clear BK182; clear HB; have HO_4 := n0_; have HO185 := n1_; have BK182 := n2_; have HB := n3_; have BK189 := n4_; have GW189 := n5_; have GE189 := n6_; have NB182_189 := n7_; have NB189_182 := n8_; clear n0_ n1_ n2_ n3_ n4_ n5_ n6_ n7_ n8_; clear hb hbox hg; have hnb40 := NB189_182.out; have hnc40 := NB182_189.out; have hcz41_0 : w39.cell? ⟨gb189, 0, none⟩ = some (.int .i64 0) := (blk_cell BK189.out 0).trans rfl; have hcz41_1 : w39.cell? ⟨gb189, 1, none⟩ = some (.int .i64 0) := (blk_cell BK189.out 1).trans rfl; have hcz41_2 : w39.cell? ⟨gb189, 2, none⟩ = some (.int .i64 0) := (blk_cell BK189.out 2).trans rfl; have hfz41_0 := blk_frozen BK189.out 0; have hfz41_1 := blk_frozen BK189.out 1; have hfz41_2 := blk_frozen BK189.out 2))
                                  have n0_ : Aside0 (Kd.R k36 36 (((w39.setCell ⟨gb189, 0, none⟩ (.int .i64 t186)).setCell ⟨gb189, 1, none⟩ (.int .i64 t187)).setCell ⟨gb189, 2, none⟩ (.int .i64 t188)) w.heap.size (fun k_ => some k_ ≠ (v184 : Value).ownBlock) u4 x4_1) := ⟨by (with_reducible repeat (first | apply Kd.R_alloc | apply Kd.R_drewN | apply Kd.R_drew)); exact Kd.R_mono (Kd.R_far (p := ⟨gb189, 2, none⟩) (Kd.R_far (p := ⟨gb189, 1, none⟩) (Kd.R_far (p := ⟨gb189, 0, none⟩) (Kd.R_types HO_4.out BK189.out (by decide)) (fun _ hk => hk.2) (.int .i64 t186)) (fun _ hk => hk.2) (.int .i64 t187)) (fun _ hk => hk.2) (.int .i64 t188)) (fun _ hk => hk.1.2)⟩
                                  have n1_ : Aside0 (Kd.R k36 36 (((w39.setCell ⟨gb189, 0, none⟩ (.int .i64 t186)).setCell ⟨gb189, 1, none⟩ (.int .i64 t187)).setCell ⟨gb189, 2, none⟩ (.int .i64 t188)) w.heap.size (fun k_ => some k_ ≠ (u4 : Value).ownBlock) v184 t183) := ⟨by (with_reducible repeat (first | apply Kd.R_alloc | apply Kd.R_drewN | apply Kd.R_drew)); exact Kd.R_mono (Kd.R_far (p := ⟨gb189, 2, none⟩) (Kd.R_far (p := ⟨gb189, 1, none⟩) (Kd.R_far (p := ⟨gb189, 0, none⟩) (Kd.R_types HO185.out BK189.out (by decide)) (fun _ hk => hk.2) (.int .i64 t186)) (fun _ hk => hk.2) (.int .i64 t187)) (fun _ hk => hk.2) (.int .i64 t188)) (fun _ hk => hk.1.2)⟩
                                  have n2_ : Aside0 ((((w39.setCell ⟨gb189, 0, none⟩ (.int .i64 t186)).setCell ⟨gb189, 1, none⟩ (.int .i64 t187)).setCell ⟨gb189, 2, none⟩ (.int .i64 t188)).heap[gb182]? = some (.cells #[.int .i64 x183000_1, .int .i64 x183001_1, .int .i64 x183002_1] 26 (0, 0))) := ⟨by (with_reducible repeat (first | refine blk_drewN ?_ _ | refine blk_drew ?_ | refine blk_alloc ?_ _)); refine blk_far ?_ NB182_189.out _; (with_reducible repeat (first | refine blk_drewN ?_ _ | refine blk_drew ?_ | refine blk_alloc ?_ _)); refine blk_far ?_ NB182_189.out _; (with_reducible repeat (first | refine blk_drewN ?_ _ | refine blk_drew ?_ | refine blk_alloc ?_ _)); refine blk_far ?_ NB182_189.out _; (with_reducible repeat (first | refine blk_drewN ?_ _ | refine blk_drew ?_ | refine blk_alloc ?_ _)); exact BK182.out⟩
                                  have n3_ : Aside0 ((((w39.setCell ⟨gb189, 0, none⟩ (.int .i64 t186)).setCell ⟨gb189, 1, none⟩ (.int .i64 t187)).setCell ⟨gb189, 2, none⟩ (.int .i64 t188)).heap[gb189]? = some (.cells #[.int .i64 t186, .int .i64 t187, .int .i64 t188] 26 (0, 0))) := ⟨by (with_reducible repeat (first | refine blk_drewN ?_ _ | refine blk_drew ?_ | refine blk_alloc ?_ _)); refine blk_put (cs := #[.int .i64 t186, .int .i64 t187, .int .i64 0]) ?_ 2 _ rfl; (with_reducible repeat (first | refine blk_drewN ?_ _ | refine blk_drew ?_ | refine blk_alloc ?_ _)); refine blk_put (cs := #[.int .i64 t186, .int .i64 0, .int .i64 0]) ?_ 1 _ rfl; (with_reducible repeat (first | refine blk_drewN ?_ _ | refine blk_drew ?_ | refine blk_alloc ?_ _)); refine blk_put (cs := #[.int .i64 0, .int .i64 0, .int .i64 0]) ?_ 0 _ rfl; (with_reducible repeat (first | refine blk_drewN ?_ _ | refine blk_drew ?_ | refine blk_alloc ?_ _)); exact BK189.out⟩
                                  have n4_ : Aside0 (Below w.heap.size w (((w39.setCell ⟨gb189, 0, none⟩ (.int .i64 t186)).setCell ⟨gb189, 1, none⟩ (.int .i64 t187)).setCell ⟨gb189, 2, none⟩ (.int .i64 t188))) := ⟨by repeat (first | (with_reducible first | exact HB.out | apply below_alloc | apply pw_below_drewN | apply below_drew1 | refine below_set ?_ GE182.out | refine below_set ?_ GE189.out) | exact HB.out)⟩
                                  (try clear HO_4)
                                  (try clear HO185)
                                  (try clear BK182)
                                  (try clear BK189)
                                  (try clear HB)
                                  generalize (((w39.setCell ⟨gb189, 0, none⟩ (.int .i64 t186)).setCell ⟨gb189, 1, none⟩ (.int .i64 t187)).setCell ⟨gb189, 2, none⟩ (.int .i64 t188)) = w42 at n0_ n1_ n2_ n3_ n4_ ⊢
                                  have HO_4 := n0_
                                  have HO185 := n1_
                                  have BK182 := n2_
                                  have BK189 := n3_
                                  have HB := n4_
                                  clear n0_ n1_ n2_ n3_ n4_
                                  have n0_ := Aside0.mk (Kd.R_drew HO_4.out)
                                  have n1_ := Aside0.mk (Kd.R_drew HO185.out)
                                  have n2_ := Aside0.mk (blk_drew BK182.out)
                                  have n3_ := Aside0.mk (blk_drew BK189.out)
                                  have n4_ := Aside0.mk (below_drew1 HB.out)
                                  clear HO_4
                                  clear HO185
                                  clear BK182
                                  clear BK189
                                  clear HB
                                  have HO_4 := n0_
                                  have HO185 := n1_
                                  have BK182 := n2_
                                  have BK189 := n3_
                                  have HB := n4_
                                  clear n0_ n1_ n2_ n3_ n4_
                                  refine start_ (n := 3) (S := fun w' => w'.cell? ⟨gb189, 0, none⟩ = some (.int .i64 t186) ∧ w'.cell? ⟨gb189, 1, none⟩ = some (.int .i64 t187) ∧ w'.cell? ⟨gb189, 2, none⟩ = some (.int .i64 t188)) (ds := []) #[false, false, false] (by kernel_rfl) rfl rfl ⟨(blk_cell BK189.out 0).trans rfl, (blk_cell BK189.out 1).trans rfl, (blk_cell BK189.out 2).trans rfl⟩ (fun hHeld => ?_)
                                  generalize w42.drew = w43 at HO_4 HO185 BK182 BK189 HB hHeld ⊢
                                  refine pure_ (i := 1) (N := some 2) (v := ?_) (a' := ?_) #[false, true, false] rfl rfl (by kernel_rfl) (fun _ _ _ h => h) (Or.inl ⟨by rfl, ?_⟩) ?_ ?_
                                  rotate_left
                                  · intro w'
                                    go_simp
                                    with_reducible rfl
                                  rotate_left
                                  · simp only [Act.put, List.setIfInBounds_toArray, List.set_cons_zero, List.set_cons_succ, i64_w, i32_w]
                                    rfl
                                  refine take_ (i := 0) (N := some 77) (v := ?_) (a' := ?_) #[true, true, false] rfl rfl (by kernel_rfl) (fun _ _ _ h => h) (Or.inl ⟨by rfl, ?_⟩) hHeld ?_ ?_
                                  rotate_left
                                  · rintro w' ⟨s0, s1, s2⟩
                                    go_simp
                                    with_reducible rfl
                                  rotate_left
                                  · simp only [Act.put, List.setIfInBounds_toArray, List.set_cons_zero, List.set_cons_succ, i64_w, i32_w]
                                    rfl
                                  refine one_ (i := 2) (N := none) #[true, true, true] rfl rfl (by kernel_rfl) (by decide) (fun K hK => ?_)
                                  have hs44 : w43.cell? ⟨gb182, 0, none⟩ = some (.int .i64 x183000_1) := (blk_cell BK182.out 0).trans rfl
                                  have hfs44 := blk_frozen BK182.out 0
                                  have hns44_1 := NB189_182.out
                                  have hms44_1 := NB182_189.out
                                  have hs45 : w43.cell? ⟨gb182, 1, none⟩ = some (.int .i64 x183001_1) := (blk_cell BK182.out 1).trans rfl
                                  have hfs45 := blk_frozen BK182.out 1
                                  have hns45_1 := NB189_182.out
                                  have hms45_1 := NB182_189.out
                                  have hs46 : w43.cell? ⟨gb182, 2, none⟩ = some (.int .i64 x183002_1) := (blk_cell BK182.out 2).trans rfl
                                  have hfs46 := blk_frozen BK182.out 2
                                  have hns46_1 := NB189_182.out
                                  have hms46_1 := NB182_189.out
                                  refine skip_ (w1 := ?_) (by rfl) rfl ?_ ?_
                                  rotate_left
                                  · go_simp
                                    rfl
                                  refine hK.out _ _ ⟨((cell_far (p := ⟨gb182, _, none⟩) NB189_182.out _).trans (((cell_far (p := ⟨gb182, _, none⟩) NB189_182.out _).trans (((cell_far (p := ⟨gb182, _, none⟩) NB189_182.out _).trans (hHeld.1)))))), ((cell_far (p := ⟨gb182, _, none⟩) NB189_182.out _).trans (((cell_far (p := ⟨gb182, _, none⟩) NB189_182.out _).trans (((cell_far (p := ⟨gb182, _, none⟩) NB189_182.out _).trans (hHeld.2.1)))))), ((cell_far (p := ⟨gb182, _, none⟩) NB189_182.out _).trans (((cell_far (p := ⟨gb182, _, none⟩) NB189_182.out _).trans (((cell_far (p := ⟨gb182, _, none⟩) NB189_182.out _).trans (hHeld.2.2))))))⟩ (fun hHeld => ?_)
                                  clear hK K
                                  refine done_ (by kernel_rfl) ?_
                                  try go_wp2
                                  refine bodyPost_ret (results_tc rfl _ _ gb182 26 #[.int .i64 t186, .int .i64 t187, .int .i64 t188] (0, 0) _ rfl (by (with_reducible repeat (first | refine blk_drewN ?_ _ | refine blk_drew ?_ | refine blk_alloc ?_ _)); refine blk_put (cs := #[.int .i64 t186, .int .i64 t187, .int .i64 x183002_1]) ?_ 2 _ rfl; (with_reducible repeat (first | refine blk_drewN ?_ _ | refine blk_drew ?_ | refine blk_alloc ?_ _)); refine blk_put (cs := #[.int .i64 t186, .int .i64 x183001_1, .int .i64 x183002_1]) ?_ 1 _ rfl; (with_reducible repeat (first | refine blk_drewN ?_ _ | refine blk_drew ?_ | refine blk_alloc ?_ _)); refine blk_put (cs := #[.int .i64 x183000_1, .int .i64 x183001_1, .int .i64 x183002_1]) ?_ 0 _ rfl; (with_reducible repeat (first | refine blk_drewN ?_ _ | refine blk_drew ?_ | refine blk_alloc ?_ _)); exact BK182.out) Tryd.underlying26 rfl (by kernel_rfl)) rfl ?_
                                  exact ⟨_, by first | rfl | (simp [errW_none, errW_some] <;> rfl) | (simp only [← hji26]; first | rfl | (simp [errW_none, errW_some] <;> rfl)) | (simp [*, errW_none, errW_some] <;> rfl), by first | exact Kd.R_nil _ _ _ _ _ | exact Kd.N_nil _ _ _ _ _ | exact Kd.V_nil _ _ _ _ _ | exact Kd.Q_nil _ _ _ _ _ | exact Kd.S_nil _ _ _ _ _, by repeat (first | (with_reducible first | exact HB.out | apply below_alloc | apply pw_below_drewN | apply below_drew1 | refine below_set ?_ GE182.out | refine below_set ?_ GE189.out) | exact HB.out)⟩
                              · rw [if_neg c28] at H
                                exact absurd H (by simp)
                            · rw [if_neg c27] at H
                              exact absurd H (by simp)
                          · replace c25 := Bool.eq_false_iff.mpr c25
                            subst c25
                            have H1 : ((portcullisref15_line.f kj17 cut1_ x5_1).bind fun bt193 => (if bt193.2.1 = 0 then (if x4_1.length + bt193.1.length < 3518437208883 then (portcullisref15_Lex.l0 kj17 a0 (x4_1 ++ bt193.1) (wrap64 (x5_1 + 1)) (wrap64 (x7_1 + 1)) (wrap64 (x7_1 + 1))) else (none)) else (some (([] : List (S36)), bt193.2.1, bt193.2.2.1, bt193.2.2.2)))) = some (r1, r2, r3, r4) := by rw [if_neg (show ¬ (false = true) by decide)] at H; exact H
                            clear H
                            have H := H1
                            clear H1
                            replace H := Option.bind_eq_some_iff.mp H
                            obtain ⟨⟨t193, t196, t197, t198⟩, A470, H⟩ := H
                            replace H : (if t196 = 0 then (if x4_1.length + t193.length < 3518437208883 then (portcullisref15_Lex.l0 kj17 a0 (x4_1 ++ t193) (wrap64 (x5_1 + 1)) (wrap64 (x7_1 + 1)) (wrap64 (x7_1 + 1))) else (none)) else (some (([] : List (S36)), t196, t197, t198))) = some (r1, r2, r3, r4) := H
                            have A47 := Aside0.mk A470
                            clear A470
                            by_cases c48 : t196 = 0
                            · rw [if_pos c48] at H
                              have c48b0 : (t196 == 0) = true := beq_iff_eq.mpr c48
                              have c48b1 : (t196 != 0) = false := bne_eq_false_iff_eq.mpr c48
                              clear c48
                              by_cases c49 : x4_1.length + t193.length < 3518437208883
                              · rw [if_pos c49] at H
                                have LMc49 := Aside0.mk c49
                                clear c49
                                obtain ⟨y200, hy200⟩ : ∃ y_ : List (S36), y_ = (x4_1 ++ t193) := ⟨_, rfl⟩
                                replace H : (portcullisref15_Lex.l0 kj17 a0 y200 (wrap64 (x5_1 + 1)) (wrap64 (x7_1 + 1)) (wrap64 (x7_1 + 1))) = some (r1, r2, r3, r4) := by first | (rw [hy200]; with_reducible exact H) | (have H2_ := (Option.bind_some _ _).symm.trans H; rw [hy200]; with_reducible exact H2_) | (have H2_ := (Option.bind_some _ _).symm.trans H; with_reducible exact H2_) | with_reducible exact H | (rw [hy200]; exact H) | exact H
                                have Ny200 := Aside0.mk hy200
                                clear hy200
                                have H' := Aside0.mk H
                                clear H
                                go_wp2_with (first | ((with_reducible refine gate_callee (f := 20) rfl ?_); refine goesL_ (some 71) rfl rfl Tryd.func20 (by kernel_rfl) rfl #[.string cut1_, .int .i64 x5_1] rfl (by (try simp only [List.map_toArray, List.map_cons, List.map_nil]); first | done | rfl | (simp only [List.length_drop, List.length_take]; rfl)) ?_; (with_reducible refine (portcullisref15_line.calls kj17 cut1_ x5_1 t193 t196 t197 t198 _ A47.out).mono ?_); rintro e w50 ⟨v194, rfl, ho0, hb⟩; refine ⟨_, rfl, ?_⟩; have n0_ := Aside0.mk (Kd.R_elder' (by (with_reducible repeat (first | apply Kd.R_alloc | apply Kd.R_drewN | apply Kd.R_drew)); exact HO_4.out) (Kd.R_base ho0) hb); have n1_ := Aside0.mk (Kd.R_lower (Kd.R_new' ho0 (Kd.R_lt (by (with_reducible repeat (first | apply Kd.R_alloc | apply Kd.R_drewN | apply Kd.R_drew)); exact HO_4.out))) (below_size (by repeat (first | (with_reducible first | exact HB.out | apply below_alloc | apply pw_below_drewN | apply below_drew1 | refine below_set ?_ GE182.out) | exact HB.out)))); have n2_ := Aside0.mk (blk_below (g := gb182) (o := .cells #[.int .i64 x183000_1, .int .i64 x183001_1, .int .i64 x183002_1] 26 (0, 0)) (by (with_reducible repeat (first | refine blk_drewN ?_ _ | refine blk_drew ?_ | refine blk_alloc ?_ _)); exact BK182.out) hb); have n3_ := Aside0.mk (below_step (by repeat (first | (with_reducible first | exact HB.out | apply below_alloc | apply pw_below_drewN | apply below_drew1 | refine below_set ?_ GE182.out) | exact HB.out)) hb); clear HO_4; clear BK182; clear HB; have HO_4 := n0_; have HO195 := n1_; have BK182 := n2_; have HB := n3_; clear n0_ n1_ n2_ n3_; (try clear hb); (try clear hb2); (try clear hk); (try clear hi); (try clear ho0)) | ((with_reducible refine gate_dst (N := 10) rfl ?_); (try (refine gate_guard (by rfl) ?_; dsimp only)); refine box_event ?hg (N := 10) ?hd (cs := #[.int .i64 0, .int .i64 0, .int .i64 0]) (t := 26) ?hr ?_; (case hd => rfl); (case hg => rfl); (case hr => first | (go_simp; done) | (go_simp; rfl)); intro gb199 hg w51 hbox hb; have n0_ := Aside0.mk (Kd.R_below (by (with_reducible repeat (first | apply Kd.R_alloc | apply Kd.R_drewN | apply Kd.R_drew)); exact HO_4.out) hb); have n1_ := Aside0.mk (Kd.R_below (by (with_reducible repeat (first | apply Kd.R_alloc | apply Kd.R_drewN | apply Kd.R_drew)); exact HO195.out) hb); have n2_ := Aside0.mk (blk_below (g := gb182) (o := .cells #[.int .i64 x183000_1, .int .i64 x183001_1, .int .i64 x183002_1] 26 (0, 0)) (by (with_reducible repeat (first | refine blk_drewN ?_ _ | refine blk_drew ?_ | refine blk_alloc ?_ _)); exact BK182.out) hb); have n3_ := Aside0.mk (below_step (by repeat (first | (with_reducible first | exact HB.out | apply below_alloc | apply pw_below_drewN | apply below_drew1 | refine below_set ?_ GE182.out) | exact HB.out)) hb); have n4_ := Aside0.mk (hbox); have n5_ := Aside0.mk ((by rw [hg]; exact (below_size (by repeat (first | (with_reducible first | exact HB.out | apply below_alloc | apply pw_below_drewN | apply below_drew1 | refine below_set ?_ GE182.out) | exact HB.out))) : w.heap.size ≤ gb199)); have n6_ := Aside0.mk ((by rw [hg]; exact (below_size (by repeat (first | (with_reducible first | exact HB.out | apply below_alloc | apply pw_below_drewN | apply below_drew1 | refine below_set ?_ GE182.out) | exact HB.out))) : w.heap.size ≤ gb199)); have n7_ := Aside0.mk ((by rw [hg]; exact Nat.ne_of_lt (blk_lt (g := gb182) (o := .cells #[.int .i64 x183000_1, .int .i64 x183001_1, .int .i64 x183002_1] 26 (0, 0)) (by (with_reducible repeat (first | refine blk_drewN ?_ _ | refine blk_drew ?_ | refine blk_alloc ?_ _)); exact BK182.out)) : gb182 ≠ gb199)); have n8_ := Aside0.mk ((by rw [hg]; exact Nat.ne_of_gt (blk_lt (g := gb182) (o := .cells #[.int .i64 x183000_1, .int .i64 x183001_1, .int .i64 x183002_1] 26 (0, 0)) (by (with_reducible repeat (first | refine blk_drewN ?_ _ | refine blk_drew ?_ | refine blk_alloc ?_ _)); exact BK182.out)) : gb199 ≠ gb182)); clear HO_4; clear HO195; clear BK182; clear HB; have HO_4 := n0_; have HO195 := n1_; have BK182 := n2_; have HB := n3_; have BK199 := n4_; have GW199 := n5_; have GE199 := n6_; have NB182_199 := n7_; have NB199_182 := n8_; clear n0_ n1_ n2_ n3_ n4_ n5_ n6_ n7_ n8_; clear hb hbox hg; have hnb52 := NB199_182.out; have hnc52 := NB182_199.out; have hcz53_0 : w51.cell? ⟨gb199, 0, none⟩ = some (.int .i64 0) := (blk_cell BK199.out 0).trans rfl; have hcz53_1 : w51.cell? ⟨gb199, 1, none⟩ = some (.int .i64 0) := (blk_cell BK199.out 1).trans rfl; have hcz53_2 : w51.cell? ⟨gb199, 2, none⟩ = some (.int .i64 0) := (blk_cell BK199.out 2).trans rfl; have hfz53_0 := blk_frozen BK199.out 0; have hfz53_1 := blk_frozen BK199.out 1; have hfz53_2 := blk_frozen BK199.out 2; obtain ⟨Ao55, co55, eo55⟩ := Kd.R_slice HO195.out; subst eo55) | ((with_reducible refine gate_builtin (b := .append) (xs := #[.tmp 78, .tmp 79]) rfl ?_); (try (refine gate_guard (by rfl) ?_; dsimp only)); at_builtin; refine Kd.R_append_rows k36 (w0 := w) w.heap.size rfl (.tmp 78) (.tmp 79) 23 36 (.agg #[(.int .u8 0), (.string ⟨#[]⟩), (.int .i64 0), (.int .i64 0)]) 40 rfl Tryd.underlying23 info36 rfl (by decide) (by omega) u4 x4_1 t193 _ _ _ (fun k_ => some k_ ≠ (.slice Ao55 t193.length co55 : Value).ownBlock) (fun _ => False) rfl rfl ?aO ?aR (fun _ _ h => h) (fun _ h => h.elim) ?aF ?aB ?aS ?aL ?_; (case aR => refine (Kd.R_reads' (e := 36) (base := w.heap.size) (ok := fun k_ => (True ∧ some k_ ≠ (u4 : Value).ownBlock)) (n := t193.length) (c := co55) ?_).2.2; exact (by (with_reducible repeat (first | apply Kd.R_alloc | apply Kd.R_drewN | apply Kd.R_drew)); exact (Kd.R_mono (Kd.R_far (p := ⟨gb199, 2, none⟩) (Kd.R_far (p := ⟨gb199, 1, none⟩) (Kd.R_far (p := ⟨gb199, 0, none⟩) (Kd.R_types HO195.out BK199.out (by decide)) (fun _ hk => hk.2) (.int .i64 t196)) (fun _ hk => hk.2) (.int .i64 t197)) (fun _ hk => hk.2) (.int .i64 t198)) (fun _ h_ => h_.1)))); (case aB => exact (by repeat (first | (with_reducible first | exact HB.out | apply below_alloc | apply pw_below_drewN | apply below_drew1 | refine below_set ?_ GE182.out | refine below_set ?_ GE199.out) | exact HB.out))); (case aF => exact (fun k_ hk => Kd.fresh' (Kd.R_lt (by (with_reducible repeat (first | apply Kd.R_alloc | apply Kd.R_drewN | apply Kd.R_drew)); exact (Kd.R_mono (Kd.R_far (p := ⟨gb199, 2, none⟩) (Kd.R_far (p := ⟨gb199, 1, none⟩) (Kd.R_far (p := ⟨gb199, 0, none⟩) (Kd.R_types HO195.out BK199.out (by decide)) (fun _ hk => hk.2) (.int .i64 t196)) (fun _ hk => hk.2) (.int .i64 t197)) (fun _ hk => hk.2) (.int .i64 t198)) (fun _ h_ => h_.1)))) k_ hk)); (case aO => exact (by (with_reducible repeat (first | apply Kd.R_alloc | apply Kd.R_drewN | apply Kd.R_drew)); exact Kd.R_mono (Kd.R_far (p := ⟨gb199, 2, none⟩) (Kd.R_far (p := ⟨gb199, 1, none⟩) (Kd.R_far (p := ⟨gb199, 0, none⟩) (Kd.R_types HO_4.out BK199.out (by decide)) (fun _ hk => hk.2) (.int .i64 t196)) (fun _ hk => hk.2) (.int .i64 t197)) (fun _ hk => hk.2) (.int .i64 t198)) (fun _ hk => hk.1.2))); (case aS => exact (below_size (by repeat (first | (with_reducible first | exact HB.out | apply below_alloc | apply pw_below_drewN | apply below_drew1 | refine below_set ?_ GE182.out | refine below_set ?_ GE199.out) | exact HB.out)))); (case aL => have := LMc49.out; omega); intro v201 w54 ho hb hg hat; rw [← Ny200.out] at ho; have n0_ := Aside0.mk (blk_grown (g := gb182) (o := .cells #[.int .i64 x183000_1, .int .i64 x183001_1, .int .i64 x183002_1] 26 (0, 0)) (by (with_reducible repeat (first | refine blk_drewN ?_ _ | refine blk_drew ?_ | refine blk_alloc ?_ _)); refine blk_far ?_ NB182_199.out _; (with_reducible repeat (first | refine blk_drewN ?_ _ | refine blk_drew ?_ | refine blk_alloc ?_ _)); refine blk_far ?_ NB182_199.out _; (with_reducible repeat (first | refine blk_drewN ?_ _ | refine blk_drew ?_ | refine blk_alloc ?_ _)); refine blk_far ?_ NB182_199.out _; (with_reducible repeat (first | refine blk_drewN ?_ _ | refine blk_drew ?_ | refine blk_alloc ?_ _)); exact BK182.out) hg (Kd.R_ne HO_4.out BK182.out (by decide))); have n1_ := Aside0.mk (Kd.R_after (ok := (fun _ => True)) (by (with_reducible repeat (first | apply Kd.R_alloc | apply Kd.R_drewN | apply Kd.R_drew)); exact Kd.R_mono (Kd.R_far (p := ⟨gb199, 2, none⟩) (Kd.R_far (p := ⟨gb199, 1, none⟩) (Kd.R_far (p := ⟨gb199, 0, none⟩) (Kd.R_types HO195.out BK199.out (by decide)) (fun _ hk => hk.2) (.int .i64 t196)) (fun _ hk => hk.2) (.int .i64 t197)) (fun _ hk => hk.2) (.int .i64 t198)) (fun _ hk => ⟨trivial, hk.1.2⟩)) hg hat); have n2_ := Aside0.mk (blk_grown (g := gb199) (o := .cells #[.int .i64 t196, .int .i64 t197, .int .i64 t198] 26 (0, 0)) (by (with_reducible repeat (first | refine blk_drewN ?_ _ | refine blk_drew ?_ | refine blk_alloc ?_ _)); refine blk_put (cs := #[.int .i64 t196, .int .i64 t197, .int .i64 0]) ?_ 2 _ rfl; (with_reducible repeat (first | refine blk_drewN ?_ _ | refine blk_drew ?_ | refine blk_alloc ?_ _)); refine blk_put (cs := #[.int .i64 t196, .int .i64 0, .int .i64 0]) ?_ 1 _ rfl; (with_reducible repeat (first | refine blk_drewN ?_ _ | refine blk_drew ?_ | refine blk_alloc ?_ _)); refine blk_put (cs := #[.int .i64 0, .int .i64 0, .int .i64 0]) ?_ 0 _ rfl; (with_reducible repeat (first | refine blk_drewN ?_ _ | refine blk_drew ?_ | refine blk_alloc ?_ _)); exact BK199.out) hg (Kd.R_ne HO_4.out BK199.out (by decide))); have n3_ := Aside0.mk (hb); have n4_ := Aside0.mk (ho); clear BK182; clear HO195; clear BK199; clear HB; clear HO_4; have BK182 := n0_; have HO195 := n1_; have BK199 := n2_; have HB := n3_; have HO202 := n4_; clear n0_ n1_ n2_ n3_ n4_; clear ho hb hg hat))
                                go_roundg kj17
                                case measure => have := HK1.out; have := HJ6.out; have := HJ17.out; omega
                                case rel => exact ⟨(y200), (wrap64 (x5_1 + 1)), (wrap64 (x7_1 + 1)), (wrap64 (x7_1 + 1)), (x183000_1), (x183001_1), (x183002_1), (by first | rfl | (simp; done) | (simp [*]; done)), (by first | rfl | (simp; done) | (simp [*]; done)), (by first | rfl | (simp; done) | (simp [*]; done)), H', ⟨by have := HK1.out; have := HJ6.out; have := HJ17.out; omega⟩, ⟨by (with_reducible repeat (first | apply Kd.R_alloc | apply Kd.R_drewN | apply Kd.R_drew)); exact Kd.R_mono HO202.out (fun _ hk => trivial)⟩, ⟨by (with_reducible repeat (first | refine blk_drewN ?_ _ | refine blk_drew ?_ | refine blk_alloc ?_ _)); exact BK182.out⟩, ⟨by repeat (first | (with_reducible first | exact HB.out | apply below_alloc | apply pw_below_drewN | apply below_drew1 | refine below_set ?_ GE182.out | refine below_set ?_ GE199.out) | exact HB.out)⟩⟩
                              · rw [if_neg c49] at H
                                exact absurd H (by simp)
                            · rw [if_neg c48] at H
                              have c48b0 : (t196 == 0) = false := beq_eq_false_iff_ne.mpr c48
                              have c48b1 : (t196 != 0) = true := bne_iff_ne.mpr c48
                              simp only [Option.some.injEq, Prod.mk.injEq] at H
                              obtain ⟨rfl, rfl, rfl, rfl⟩ := H
                              try go_wp2_with (first | ((with_reducible refine gate_callee (f := 20) rfl ?_); refine goesL_ (some 71) rfl rfl Tryd.func20 (by kernel_rfl) rfl #[.string cut1_, .int .i64 x5_1] rfl (by (try simp only [List.map_toArray, List.map_cons, List.map_nil]); first | done | rfl | (simp only [List.length_drop, List.length_take]; rfl)) ?_; (with_reducible refine (portcullisref15_line.calls kj17 cut1_ x5_1 t193 t196 t197 t198 _ A47.out).mono ?_); rintro e w56 ⟨v194, rfl, ho0, hb⟩; refine ⟨_, rfl, ?_⟩; have n0_ := Aside0.mk (Kd.R_elder' (by (with_reducible repeat (first | apply Kd.R_alloc | apply Kd.R_drewN | apply Kd.R_drew)); exact HO_4.out) (Kd.R_base ho0) hb); have n1_ := Aside0.mk (Kd.R_lower (Kd.R_new' ho0 (Kd.R_lt (by (with_reducible repeat (first | apply Kd.R_alloc | apply Kd.R_drewN | apply Kd.R_drew)); exact HO_4.out))) (below_size (by repeat (first | (with_reducible first | exact HB.out | apply below_alloc | apply pw_below_drewN | apply below_drew1 | refine below_set ?_ GE182.out) | exact HB.out)))); have n2_ := Aside0.mk (blk_below (g := gb182) (o := .cells #[.int .i64 x183000_1, .int .i64 x183001_1, .int .i64 x183002_1] 26 (0, 0)) (by (with_reducible repeat (first | refine blk_drewN ?_ _ | refine blk_drew ?_ | refine blk_alloc ?_ _)); exact BK182.out) hb); have n3_ := Aside0.mk (below_step (by repeat (first | (with_reducible first | exact HB.out | apply below_alloc | apply pw_below_drewN | apply below_drew1 | refine below_set ?_ GE182.out) | exact HB.out)) hb); clear HO_4; clear BK182; clear HB; have HO_4 := n0_; have HO195 := n1_; have BK182 := n2_; have HB := n3_; clear n0_ n1_ n2_ n3_; (try clear hb); (try clear hb2); (try clear hk); (try clear hi); (try clear ho0)) | ((with_reducible refine gate_dst (N := 10) rfl ?_); (try (refine gate_guard (by rfl) ?_; dsimp only)); refine box_event ?hg (N := 10) ?hd (cs := #[.int .i64 0, .int .i64 0, .int .i64 0]) (t := 26) ?hr ?_; (case hd => rfl); (case hg => rfl); (case hr => first | (go_simp; done) | (go_simp; rfl)); intro gb199 hg w57 hbox hb; have n0_ := Aside0.mk (Kd.R_below (by (with_reducible repeat (first | apply Kd.R_alloc | apply Kd.R_drewN | apply Kd.R_drew)); exact HO_4.out) hb); have n1_ := Aside0.mk (Kd.R_below (by (with_reducible repeat (first | apply Kd.R_alloc | apply Kd.R_drewN | apply Kd.R_drew)); exact HO195.out) hb); have n2_ := Aside0.mk (blk_below (g := gb182) (o := .cells #[.int .i64 x183000_1, .int .i64 x183001_1, .int .i64 x183002_1] 26 (0, 0)) (by (with_reducible repeat (first | refine blk_drewN ?_ _ | refine blk_drew ?_ | refine blk_alloc ?_ _)); exact BK182.out) hb); have n3_ := Aside0.mk (below_step (by repeat (first | (with_reducible first | exact HB.out | apply below_alloc | apply pw_below_drewN | apply below_drew1 | refine below_set ?_ GE182.out) | exact HB.out)) hb); have n4_ := Aside0.mk (hbox); have n5_ := Aside0.mk ((by rw [hg]; exact (below_size (by repeat (first | (with_reducible first | exact HB.out | apply below_alloc | apply pw_below_drewN | apply below_drew1 | refine below_set ?_ GE182.out) | exact HB.out))) : w.heap.size ≤ gb199)); have n6_ := Aside0.mk ((by rw [hg]; exact (below_size (by repeat (first | (with_reducible first | exact HB.out | apply below_alloc | apply pw_below_drewN | apply below_drew1 | refine below_set ?_ GE182.out) | exact HB.out))) : w.heap.size ≤ gb199)); have n7_ := Aside0.mk ((by rw [hg]; exact Nat.ne_of_lt (blk_lt (g := gb182) (o := .cells #[.int .i64 x183000_1, .int .i64 x183001_1, .int .i64 x183002_1] 26 (0, 0)) (by (with_reducible repeat (first | refine blk_drewN ?_ _ | refine blk_drew ?_ | refine blk_alloc ?_ _)); exact BK182.out)) : gb182 ≠ gb199)); have n8_ := Aside0.mk ((by rw [hg]; exact Nat.ne_of_gt (blk_lt (g := gb182) (o := .cells #[.int .i64 x183000_1, .int .i64 x183001_1, .int .i64 x183002_1] 26 (0, 0)) (by (with_reducible repeat (first | refine blk_drewN ?_ _ | refine blk_drew ?_ | refine blk_alloc ?_ _)); exact BK182.out)) : gb199 ≠ gb182)); clear HO_4; clear HO195; clear BK182; clear HB; have HO_4 := n0_; have HO195 := n1_; have BK182 := n2_; have HB := n3_; have BK199 := n4_; have GW199 := n5_; have GE199 := n6_; have NB182_199 := n7_; have NB199_182 := n8_; clear n0_ n1_ n2_ n3_ n4_ n5_ n6_ n7_ n8_; clear hb hbox hg; have hnb58 := NB199_182.out; have hnc58 := NB182_199.out; have hcz59_0 : w57.cell? ⟨gb199, 0, none⟩ = some (.int .i64 0) := (blk_cell BK199.out 0).trans rfl; have hcz59_1 : w57.cell? ⟨gb199, 1, none⟩ = some (.int .i64 0) := (blk_cell BK199.out 1).trans rfl; have hcz59_2 : w57.cell? ⟨gb199, 2, none⟩ = some (.int .i64 0) := (blk_cell BK199.out 2).trans rfl; have hfz59_0 := blk_frozen BK199.out 0; have hfz59_1 := blk_frozen BK199.out 1; have hfz59_2 := blk_frozen BK199.out 2))
                              have n0_ : Aside0 (Kd.R k36 36 (((w57.setCell ⟨gb199, 0, none⟩ (.int .i64 t196)).setCell ⟨gb199, 1, none⟩ (.int .i64 t197)).setCell ⟨gb199, 2, none⟩ (.int .i64 t198)) w.heap.size (fun k_ => some k_ ≠ (v194 : Value).ownBlock) u4 x4_1) := ⟨by (with_reducible repeat (first | apply Kd.R_alloc | apply Kd.R_drewN | apply Kd.R_drew)); exact Kd.R_mono (Kd.R_far (p := ⟨gb199, 2, none⟩) (Kd.R_far (p := ⟨gb199, 1, none⟩) (Kd.R_far (p := ⟨gb199, 0, none⟩) (Kd.R_types HO_4.out BK199.out (by decide)) (fun _ hk => hk.2) (.int .i64 t196)) (fun _ hk => hk.2) (.int .i64 t197)) (fun _ hk => hk.2) (.int .i64 t198)) (fun _ hk => hk.1.2)⟩
                              have n1_ : Aside0 (Kd.R k36 36 (((w57.setCell ⟨gb199, 0, none⟩ (.int .i64 t196)).setCell ⟨gb199, 1, none⟩ (.int .i64 t197)).setCell ⟨gb199, 2, none⟩ (.int .i64 t198)) w.heap.size (fun k_ => some k_ ≠ (u4 : Value).ownBlock) v194 t193) := ⟨by (with_reducible repeat (first | apply Kd.R_alloc | apply Kd.R_drewN | apply Kd.R_drew)); exact Kd.R_mono (Kd.R_far (p := ⟨gb199, 2, none⟩) (Kd.R_far (p := ⟨gb199, 1, none⟩) (Kd.R_far (p := ⟨gb199, 0, none⟩) (Kd.R_types HO195.out BK199.out (by decide)) (fun _ hk => hk.2) (.int .i64 t196)) (fun _ hk => hk.2) (.int .i64 t197)) (fun _ hk => hk.2) (.int .i64 t198)) (fun _ hk => hk.1.2)⟩
                              have n2_ : Aside0 ((((w57.setCell ⟨gb199, 0, none⟩ (.int .i64 t196)).setCell ⟨gb199, 1, none⟩ (.int .i64 t197)).setCell ⟨gb199, 2, none⟩ (.int .i64 t198)).heap[gb182]? = some (.cells #[.int .i64 x183000_1, .int .i64 x183001_1, .int .i64 x183002_1] 26 (0, 0))) := ⟨by (with_reducible repeat (first | refine blk_drewN ?_ _ | refine blk_drew ?_ | refine blk_alloc ?_ _)); refine blk_far ?_ NB182_199.out _; (with_reducible repeat (first | refine blk_drewN ?_ _ | refine blk_drew ?_ | refine blk_alloc ?_ _)); refine blk_far ?_ NB182_199.out _; (with_reducible repeat (first | refine blk_drewN ?_ _ | refine blk_drew ?_ | refine blk_alloc ?_ _)); refine blk_far ?_ NB182_199.out _; (with_reducible repeat (first | refine blk_drewN ?_ _ | refine blk_drew ?_ | refine blk_alloc ?_ _)); exact BK182.out⟩
                              have n3_ : Aside0 ((((w57.setCell ⟨gb199, 0, none⟩ (.int .i64 t196)).setCell ⟨gb199, 1, none⟩ (.int .i64 t197)).setCell ⟨gb199, 2, none⟩ (.int .i64 t198)).heap[gb199]? = some (.cells #[.int .i64 t196, .int .i64 t197, .int .i64 t198] 26 (0, 0))) := ⟨by (with_reducible repeat (first | refine blk_drewN ?_ _ | refine blk_drew ?_ | refine blk_alloc ?_ _)); refine blk_put (cs := #[.int .i64 t196, .int .i64 t197, .int .i64 0]) ?_ 2 _ rfl; (with_reducible repeat (first | refine blk_drewN ?_ _ | refine blk_drew ?_ | refine blk_alloc ?_ _)); refine blk_put (cs := #[.int .i64 t196, .int .i64 0, .int .i64 0]) ?_ 1 _ rfl; (with_reducible repeat (first | refine blk_drewN ?_ _ | refine blk_drew ?_ | refine blk_alloc ?_ _)); refine blk_put (cs := #[.int .i64 0, .int .i64 0, .int .i64 0]) ?_ 0 _ rfl; (with_reducible repeat (first | refine blk_drewN ?_ _ | refine blk_drew ?_ | refine blk_alloc ?_ _)); exact BK199.out⟩
                              have n4_ : Aside0 (Below w.heap.size w (((w57.setCell ⟨gb199, 0, none⟩ (.int .i64 t196)).setCell ⟨gb199, 1, none⟩ (.int .i64 t197)).setCell ⟨gb199, 2, none⟩ (.int .i64 t198))) := ⟨by repeat (first | (with_reducible first | exact HB.out | apply below_alloc | apply pw_below_drewN | apply below_drew1 | refine below_set ?_ GE182.out | refine below_set ?_ GE199.out) | exact HB.out)⟩
                              (try clear HO_4)
                              (try clear HO195)
                              (try clear BK182)
                              (try clear BK199)
                              (try clear HB)
                              generalize (((w57.setCell ⟨gb199, 0, none⟩ (.int .i64 t196)).setCell ⟨gb199, 1, none⟩ (.int .i64 t197)).setCell ⟨gb199, 2, none⟩ (.int .i64 t198)) = w60 at n0_ n1_ n2_ n3_ n4_ ⊢
                              have HO_4 := n0_
                              have HO195 := n1_
                              have BK182 := n2_
                              have BK199 := n3_
                              have HB := n4_
                              clear n0_ n1_ n2_ n3_ n4_
                              have n0_ := Aside0.mk (Kd.R_drew HO_4.out)
                              have n1_ := Aside0.mk (Kd.R_drew HO195.out)
                              have n2_ := Aside0.mk (blk_drew BK182.out)
                              have n3_ := Aside0.mk (blk_drew BK199.out)
                              have n4_ := Aside0.mk (below_drew1 HB.out)
                              clear HO_4
                              clear HO195
                              clear BK182
                              clear BK199
                              clear HB
                              have HO_4 := n0_
                              have HO195 := n1_
                              have BK182 := n2_
                              have BK199 := n3_
                              have HB := n4_
                              clear n0_ n1_ n2_ n3_ n4_
                              refine start_ (n := 3) (S := fun w' => w'.cell? ⟨gb199, 0, none⟩ = some (.int .i64 t196) ∧ w'.cell? ⟨gb199, 1, none⟩ = some (.int .i64 t197) ∧ w'.cell? ⟨gb199, 2, none⟩ = some (.int .i64 t198)) (ds := []) #[false, false, false] (by kernel_rfl) rfl rfl ⟨(blk_cell BK199.out 0).trans rfl, (blk_cell BK199.out 1).trans rfl, (blk_cell BK199.out 2).trans rfl⟩ (fun hHeld => ?_)
                              generalize w60.drew = w61 at HO_4 HO195 BK182 BK199 HB hHeld ⊢
                              refine pure_ (i := 1) (N := some 2) (v := ?_) (a' := ?_) #[false, true, false] rfl rfl (by kernel_rfl) (fun _ _ _ h => h) (Or.inl ⟨by rfl, ?_⟩) ?_ ?_
                              rotate_left
                              · intro w'
                                go_simp
                                with_reducible rfl
                              rotate_left
                              · simp only [Act.put, List.setIfInBounds_toArray, List.set_cons_zero, List.set_cons_succ, i64_w, i32_w]
                                rfl
                              refine take_ (i := 0) (N := some 77) (v := ?_) (a' := ?_) #[true, true, false] rfl rfl (by kernel_rfl) (fun _ _ _ h => h) (Or.inl ⟨by rfl, ?_⟩) hHeld ?_ ?_
                              rotate_left
                              · rintro w' ⟨s0, s1, s2⟩
                                go_simp
                                with_reducible rfl
                              rotate_left
                              · simp only [Act.put, List.setIfInBounds_toArray, List.set_cons_zero, List.set_cons_succ, i64_w, i32_w]
                                rfl
                              refine one_ (i := 2) (N := none) #[true, true, true] rfl rfl (by kernel_rfl) (by decide) (fun K hK => ?_)
                              have hs62 : w61.cell? ⟨gb182, 0, none⟩ = some (.int .i64 x183000_1) := (blk_cell BK182.out 0).trans rfl
                              have hfs62 := blk_frozen BK182.out 0
                              have hns62_1 := NB199_182.out
                              have hms62_1 := NB182_199.out
                              have hs63 : w61.cell? ⟨gb182, 1, none⟩ = some (.int .i64 x183001_1) := (blk_cell BK182.out 1).trans rfl
                              have hfs63 := blk_frozen BK182.out 1
                              have hns63_1 := NB199_182.out
                              have hms63_1 := NB182_199.out
                              have hs64 : w61.cell? ⟨gb182, 2, none⟩ = some (.int .i64 x183002_1) := (blk_cell BK182.out 2).trans rfl
                              have hfs64 := blk_frozen BK182.out 2
                              have hns64_1 := NB199_182.out
                              have hms64_1 := NB182_199.out
                              refine skip_ (w1 := ?_) (by rfl) rfl ?_ ?_
                              rotate_left
                              · go_simp
                                rfl
                              refine hK.out _ _ ⟨((cell_far (p := ⟨gb182, _, none⟩) NB199_182.out _).trans (((cell_far (p := ⟨gb182, _, none⟩) NB199_182.out _).trans (((cell_far (p := ⟨gb182, _, none⟩) NB199_182.out _).trans (hHeld.1)))))), ((cell_far (p := ⟨gb182, _, none⟩) NB199_182.out _).trans (((cell_far (p := ⟨gb182, _, none⟩) NB199_182.out _).trans (((cell_far (p := ⟨gb182, _, none⟩) NB199_182.out _).trans (hHeld.2.1)))))), ((cell_far (p := ⟨gb182, _, none⟩) NB199_182.out _).trans (((cell_far (p := ⟨gb182, _, none⟩) NB199_182.out _).trans (((cell_far (p := ⟨gb182, _, none⟩) NB199_182.out _).trans (hHeld.2.2))))))⟩ (fun hHeld => ?_)
                              clear hK K
                              refine done_ (by kernel_rfl) ?_
                              try go_wp2
                              refine bodyPost_ret (results_tc rfl _ _ gb182 26 #[.int .i64 t196, .int .i64 t197, .int .i64 t198] (0, 0) _ rfl (by (with_reducible repeat (first | refine blk_drewN ?_ _ | refine blk_drew ?_ | refine blk_alloc ?_ _)); refine blk_put (cs := #[.int .i64 t196, .int .i64 t197, .int .i64 x183002_1]) ?_ 2 _ rfl; (with_reducible repeat (first | refine blk_drewN ?_ _ | refine blk_drew ?_ | refine blk_alloc ?_ _)); refine blk_put (cs := #[.int .i64 t196, .int .i64 x183001_1, .int .i64 x183002_1]) ?_ 1 _ rfl; (with_reducible repeat (first | refine blk_drewN ?_ _ | refine blk_drew ?_ | refine blk_alloc ?_ _)); refine blk_put (cs := #[.int .i64 x183000_1, .int .i64 x183001_1, .int .i64 x183002_1]) ?_ 0 _ rfl; (with_reducible repeat (first | refine blk_drewN ?_ _ | refine blk_drew ?_ | refine blk_alloc ?_ _)); exact BK182.out) Tryd.underlying26 rfl (by kernel_rfl)) rfl ?_
                              exact ⟨_, by first | rfl | (simp [errW_none, errW_some] <;> rfl) | (simp [*, errW_none, errW_some] <;> rfl), by first | exact Kd.R_nil _ _ _ _ _ | exact Kd.N_nil _ _ _ _ _ | exact Kd.V_nil _ _ _ _ _ | exact Kd.Q_nil _ _ _ _ _ | exact Kd.S_nil _ _ _ _ _, by repeat (first | (with_reducible first | exact HB.out | apply below_alloc | apply pw_below_drewN | apply below_drew1 | refine below_set ?_ GE182.out | refine below_set ?_ GE199.out) | exact HB.out)⟩
                    · rw [if_neg c17] at H
                      exact absurd H (by simp)
                  · rw [if_neg c16] at H
                    exact absurd H (by simp)
                · rw [if_neg c15] at H
                  exact absurd H (by simp)
        · rw [if_neg c6] at H
          have c6b0 : decide (x7_1 ≤ (a0.size : Int)) = false := decide_eq_false c6
          clear c6
          simp only [Option.some.injEq, Prod.mk.injEq] at H
          obtain ⟨rfl, rfl, rfl, rfl⟩ := H
          have hcz65_0 : wr.cell? ⟨gb182, 0, none⟩ = some (.int .i64 x183000_1) := (blk_cell BK182.out 0).trans rfl
          have hcz65_1 : wr.cell? ⟨gb182, 1, none⟩ = some (.int .i64 x183001_1) := (blk_cell BK182.out 1).trans rfl
          have hcz65_2 : wr.cell? ⟨gb182, 2, none⟩ = some (.int .i64 x183002_1) := (blk_cell BK182.out 2).trans rfl
          have hfz65_0 := blk_frozen BK182.out 0
          have hfz65_1 := blk_frozen BK182.out 1
          have hfz65_2 := blk_frozen BK182.out 2
          go_wp2
          refine bodyPost_ret (results_tc rfl _ _ gb182 26 #[.int .i64 0, .int .i64 0, .int .i64 0] (0, 0) _ rfl (by (with_reducible repeat (first | refine blk_drewN ?_ _ | refine blk_drew ?_ | refine blk_alloc ?_ _)); refine blk_put (cs := #[.int .i64 0, .int .i64 0, .int .i64 x183002_1]) ?_ 2 _ rfl; (with_reducible repeat (first | refine blk_drewN ?_ _ | refine blk_drew ?_ | refine blk_alloc ?_ _)); refine blk_put (cs := #[.int .i64 0, .int .i64 x183001_1, .int .i64 x183002_1]) ?_ 1 _ rfl; (with_reducible repeat (first | refine blk_drewN ?_ _ | refine blk_drew ?_ | refine blk_alloc ?_ _)); refine blk_put (cs := #[.int .i64 x183000_1, .int .i64 x183001_1, .int .i64 x183002_1]) ?_ 0 _ rfl; (with_reducible repeat (first | refine blk_drewN ?_ _ | refine blk_drew ?_ | refine blk_alloc ?_ _)); exact BK182.out) Tryd.underlying26 rfl (by kernel_rfl)) rfl ?_
          exact ⟨_, by first | rfl | (simp [errW_none, errW_some] <;> rfl) | (simp [*, errW_none, errW_some] <;> rfl), by (with_reducible repeat (first | apply Kd.R_alloc | apply Kd.R_drewN | apply Kd.R_drew)); exact Kd.R_mono (Kd.R_far (p := ⟨gb182, 2, none⟩) (Kd.R_far (p := ⟨gb182, 1, none⟩) (Kd.R_far (p := ⟨gb182, 0, none⟩) (Kd.R_types HO_4.out BK182.out (by decide)) (fun _ hk => hk.2) (.int .i64 0)) (fun _ hk => hk.2) (.int .i64 0)) (fun _ hk => hk.2) (.int .i64 0)) (fun _ hk => trivial), by repeat (first | (with_reducible first | exact HB.out | apply below_alloc | apply pw_below_drewN | apply below_drew1 | refine below_set ?_ GE182.out) | exact HB.out)⟩
end Go.Proofs.YtfndanccnjggfaaDoor.Q
-- Written by this session's program (a turned print).
namespace Go.Proofs.YtfndanccnjggfaaDoor.Q
open Go.RowKit Go.Proofs.YtfndanccnjggfaaDoorW.PrintWords Go.Proofs.YtfndanccnjggfaaDoorW.PrintLast Go.Proofs.YtfndanccnjggfaaDoorW.PrintMore
attribute [local go_sem] max2_int min2_int max_two min_two max_three min_three max_four min_four   -- for this text's walks alone
set_option linter.unusedVariables false
set_option linter.unusedSimpArgs false
attribute [local go_sem high] eqA36
/-! ### portcullisref15_Same: function 10 -/
def portcullisref15_Same.l0 : Nat → List (S36) → List (S36) → Bool → Int → Option (Bool)
  | 0, _, _, _, _ => none
  | k + 1, x0, x1, x2, x7 => if x7 < (x0.length : Int) then (if 0 ≤ x7 then (if x7 < (x1.length : Int) then (if ((rd_T36 x0 x7).f0) = ((rd_T36 x1 x7).f0) then (if ((rd_T36 x0 x7).f1).toList = ((rd_T36 x1 x7).f1).toList then (if x2 = true then (portcullisref15_Same.l0 k x0 x1 x2 (wrap64 (x7 + 1))) else (if (!(((rd_T36 x0 x7).f0) == ((rd_T36 x1 x7).f0)) || (!((((rd_T36 x0 x7).f1).toList) == (((rd_T36 x1 x7).f1).toList)) || (!(((rd_T36 x0 x7).f2) == ((rd_T36 x1 x7).f2)) || (!(((rd_T36 x0 x7).f3) == ((rd_T36 x1 x7).f3)))))) = true then (some false) else (portcullisref15_Same.l0 k x0 x1 x2 (wrap64 (x7 + 1))))) else (some false)) else (some false)) else (none)) else (none)) else (some true)
def portcullisref15_Same.f (k : Nat) (l0 : List (S36)) (l1 : List (S36)) (a2 : Bool) : Option (Bool) := if (l0.length : Int) = (l1.length : Int) then (portcullisref15_Same.l0 k l0 l1 a2 0) else (some false)
theorem portcullisref15_Same.mono_l : ∀ k, (∀ y0 y1 y2 y3, LeO (portcullisref15_Same.l0 k y0 y1 y2 y3) (portcullisref15_Same.l0 (k + 1) y0 y1 y2 y3))
  | 0 => fun _ _ _ _ r h => by simp [portcullisref15_Same.l0] at h
  | k + 1 => by
    have ih0 := portcullisref15_Same.mono_l k
    · intro y0 y1 y2 y3
      unfold portcullisref15_Same.l0
      repeat' first
      | (with_reducible exact ih0 _ _ _ _)
      | (with_reducible exact LeO.refl _)
      | (with_reducible exact LeO.none _)
      | (with_reducible refine LeO.ite ?_ ?_)
      | (with_reducible refine LeO.bind ?_ (fun _ => ?_))
      | exact ih0 _ _ _ _
      | exact LeO.none _
      | refine LeO.ite ?_ ?_
      | refine LeO.bind ?_ (fun _ => ?_)
theorem portcullisref15_Same.mono : ∀ a0 a1 a2 k, LeO (portcullisref15_Same.f k a0 a1 a2) (portcullisref15_Same.f (k + 1) a0 a1 a2) := by
  intro a0 a1 a2 k
  have ih0 := portcullisref15_Same.mono_l k
  unfold portcullisref15_Same.f
  repeat' first
      | (with_reducible exact ih0 _ _ _ _)
      | (with_reducible exact LeO.refl _)
      | (with_reducible exact LeO.none _)
      | (with_reducible refine LeO.ite ?_ ?_)
      | (with_reducible refine LeO.bind ?_ (fun _ => ?_))
      | exact ih0 _ _ _ _
      | exact LeO.none _
      | refine LeO.ite ?_ ?_
      | refine LeO.bind ?_ (fun _ => ?_)
set_option maxHeartbeats 8000000 in
set_option maxRecDepth 100000 in
theorem portcullisref15_Same.calls (k : Nat) (A0 : Option Addr) (c0 : Nat) (l0 : List (S36)) (A1 : Option Addr) (c1 : Nat) (l1 : List (S36)) (a2 : Bool) (r : Bool) (w : World) (hr0 : Kd.C k36 w A0 l0.length l0) (hc0 : l0.length ≤ c0) (hr1 : Kd.C k36 w A1 l1.length l1) (hc1 : l1.length ≤ c1) (h : portcullisref15_Same.f k l0 l1 a2 = some r) :
    Calls Tryd.prog 10 #[.slice A0 l0.length c0, .slice A1 l1.length c1, .bool a2] w fun e w' => e = .returned (.bool r) ∧ Drawn0 w w' := by
  have hu36 := Tryd.underlying36
  have HR0 := Aside0.mk hr0
  have HC0 := Aside0.mk hc0
  clear hr0 hc0
  have HR1 := Aside0.mk hr1
  have HC1 := Aside0.mk hc1
  clear hr1 hc1
  have H : (if (l0.length : Int) = (l1.length : Int) then (portcullisref15_Same.l0 k l0 l1 a2 0) else (some false)) = some r := h
  clear h
  by_cases c4 : (l0.length : Int) = (l1.length : Int)
  · rw [if_pos c4] at H
    have c4b0 : ((l0.length : Int) == (l1.length : Int)) = true := beq_iff_eq.mpr c4
    have c4b1 : ((l0.length : Int) != (l1.length : Int)) = false := bne_eq_false_iff_eq.mpr c4
    have c4b2 : (l0.length == l1.length) = true := by first | simpa using c4 | (simp at c4 ⊢; omega)
    clear c4
    have H' := Aside0.mk H
    clear H
    go_enter Tryd.func10, Tryd.ntmps10
    go_wp2
    repeat (go_quiet (fail); try go_wp2)
    go_loopg [7] k (fun kq v7 w' => ∃ (x7_1 : Int), v7 = .int .i64 x7_1 ∧ Aside0 (portcullisref15_Same.l0 kq l0 l1 a2 x7_1 = some r) ∧ Aside0 (kq ≤ k) ∧ Drawn0 w w')
    case atStart => exact ⟨(0), (by first | rfl | (simp; done) | (simp [*]; done)), H', ⟨Nat.le_refl _⟩, by repeat (first | exact Drawn0.refl _ | apply Drawn0.step)⟩
    case round =>
      clear H'
      try clear c1
      try clear p2
      try clear c4
      try clear c4b0
      try clear c4b1
      try clear c4b2
      obtain ⟨x7_1, rfl, HA, HK1, ⟨m1, rfl⟩⟩ := hrel
      cases gk with
      | zero => exact absurd HA.out (by simp [portcullisref15_Same.l0])
      | succ k1 =>
        have H := HA.out
        clear HA
        simp only [portcullisref15_Same.l0] at H
        by_cases c5 : x7_1 < (l0.length : Int)
        · rw [if_pos c5] at H
          have c5b0 : decide (x7_1 < (l0.length : Int)) = true := decide_eq_true c5
          clear c5
          by_cases c6 : 0 ≤ x7_1
          · rw [if_pos c6] at H
            have c6b0 : decide (0 ≤ x7_1) = true := decide_eq_true c6
            clear c6
            by_cases c7 : x7_1 < (l1.length : Int)
            · rw [if_pos c7] at H
              have c7b0 : decide (x7_1 < (l1.length : Int)) = true := decide_eq_true c7
              clear c7
              by_cases c8 : ((rd_T36 l0 x7_1).f0) = ((rd_T36 l1 x7_1).f0)
              · rw [if_pos c8] at H
                have c8b0 : (((rd_T36 l0 x7_1).f0) == ((rd_T36 l1 x7_1).f0)) = true := beq_iff_eq.mpr c8
                have c8b1 : (((rd_T36 l0 x7_1).f0) != ((rd_T36 l1 x7_1).f0)) = false := bne_eq_false_iff_eq.mpr c8
                clear c8
                by_cases c9 : ((rd_T36 l0 x7_1).f1).toList = ((rd_T36 l1 x7_1).f1).toList
                · rw [if_pos c9] at H
                  have c9b0 : (((rd_T36 l0 x7_1).f1).toList == ((rd_T36 l1 x7_1).f1).toList) = true := beq_iff_eq.mpr c9
                  have c9b1 : (((rd_T36 l0 x7_1).f1).toList != ((rd_T36 l1 x7_1).f1).toList) = false := bne_eq_false_iff_eq.mpr c9
                  clear c9
                  by_cases c10 : a2 = true
                  · subst c10
                    have H1 : (portcullisref15_Same.l0 k1 l0 l1 true (wrap64 (x7_1 + 1))) = some r := by rw [if_pos rfl] at H; exact H
                    clear H
                    have H := H1
                    clear H1
                    have H' := Aside0.mk H
                    clear H
                    have p203 : 0 ≤ (x7_1 : Int) := of_decide_eq_true (by first | (with_reducible assumption) | assumption)
                    have q203 : x7_1 < (l0.length : Int) := of_decide_eq_true (by first | (with_reducible assumption) | assumption)
                    obtain ⟨ad203, e203, hx203_0, hx203_1, hx203_2, hx203_3⟩ := at_T36 HR0.out x7_1 p203 q203
                    cases e203
                    replace p203 := eq_true p203
                    replace q203 := eq_true q203
                    have p204 : 0 ≤ (x7_1 : Int) := of_decide_eq_true (by first | (with_reducible assumption) | assumption)
                    have q204 : x7_1 < (l1.length : Int) := of_decide_eq_true (by first | (with_reducible assumption) | assumption)
                    obtain ⟨ad204, e204, hx204_0, hx204_1, hx204_2, hx204_3⟩ := at_T36 HR1.out x7_1 p204 q204
                    cases e204
                    replace p204 := eq_true p204
                    replace q204 := eq_true q204
                    have p205 : 0 ≤ (x7_1 : Int) := of_decide_eq_true (by first | (with_reducible assumption) | assumption)
                    have q205 : x7_1 < (l0.length : Int) := of_decide_eq_true (by first | (with_reducible assumption) | assumption)
                    obtain ⟨ad205, e205, hx205_0, hx205_1, hx205_2, hx205_3⟩ := at_T36 HR0.out x7_1 p205 q205
                    obtain rfl : ad203 = ad205 := (by injection e205)
                    replace p205 := eq_true p205
                    replace q205 := eq_true q205
                    have p206 : 0 ≤ (x7_1 : Int) := of_decide_eq_true (by first | (with_reducible assumption) | assumption)
                    have q206 : x7_1 < (l1.length : Int) := of_decide_eq_true (by first | (with_reducible assumption) | assumption)
                    obtain ⟨ad206, e206, hx206_0, hx206_1, hx206_2, hx206_3⟩ := at_T36 HR1.out x7_1 p206 q206
                    obtain rfl : ad204 = ad206 := (by injection e206)
                    replace p206 := eq_true p206
                    replace q206 := eq_true q206
                    go_wp2
                    repeat (go_quiet (fail); try go_wp2)
                    go_roundg k1
                    case measure => have := HK1.out; omega
                    case rel => exact ⟨(wrap64 (x7_1 + 1)), (by first | rfl | (simp; done) | (simp [*]; done)), H', ⟨by have := HK1.out; omega⟩, by repeat (first | exact Drawn0.refl _ | apply Drawn0.step)⟩
                  · replace c10 := Bool.eq_false_iff.mpr c10
                    subst c10
                    have H1 : (if (!(((rd_T36 l0 x7_1).f0) == ((rd_T36 l1 x7_1).f0)) || (!((((rd_T36 l0 x7_1).f1).toList) == (((rd_T36 l1 x7_1).f1).toList)) || (!(((rd_T36 l0 x7_1).f2) == ((rd_T36 l1 x7_1).f2)) || (!(((rd_T36 l0 x7_1).f3) == ((rd_T36 l1 x7_1).f3)))))) = true then (some false) else (portcullisref15_Same.l0 k1 l0 l1 false (wrap64 (x7_1 + 1)))) = some r := by rw [if_neg (show ¬ (false = true) by decide)] at H; exact H
                    clear H
                    have H := H1
                    clear H1
                    by_cases c11 : (!(((rd_T36 l0 x7_1).f0) == ((rd_T36 l1 x7_1).f0)) || (!((((rd_T36 l0 x7_1).f1).toList) == (((rd_T36 l1 x7_1).f1).toList)) || (!(((rd_T36 l0 x7_1).f2) == ((rd_T36 l1 x7_1).f2)) || (!(((rd_T36 l0 x7_1).f3) == ((rd_T36 l1 x7_1).f3)))))) = true
                    · rw [if_pos c11] at H
                      have c11b0 : (!(((rd_T36 l0 x7_1).f0) == ((rd_T36 l1 x7_1).f0)) || (!((((rd_T36 l0 x7_1).f1).toList) == (((rd_T36 l1 x7_1).f1).toList)) || (!(((rd_T36 l0 x7_1).f2) == ((rd_T36 l1 x7_1).f2)) || (!(((rd_T36 l0 x7_1).f3) == ((rd_T36 l1 x7_1).f3)))))) = true := c11
                      clear c11
                      obtain rfl := Option.some.inj H
                      have p203 : 0 ≤ (x7_1 : Int) := of_decide_eq_true (by first | (with_reducible assumption) | assumption)
                      have q203 : x7_1 < (l0.length : Int) := of_decide_eq_true (by first | (with_reducible assumption) | assumption)
                      obtain ⟨ad203, e203, hx203_0, hx203_1, hx203_2, hx203_3⟩ := at_T36 HR0.out x7_1 p203 q203
                      cases e203
                      replace p203 := eq_true p203
                      replace q203 := eq_true q203
                      have p204 : 0 ≤ (x7_1 : Int) := of_decide_eq_true (by first | (with_reducible assumption) | assumption)
                      have q204 : x7_1 < (l1.length : Int) := of_decide_eq_true (by first | (with_reducible assumption) | assumption)
                      obtain ⟨ad204, e204, hx204_0, hx204_1, hx204_2, hx204_3⟩ := at_T36 HR1.out x7_1 p204 q204
                      cases e204
                      replace p204 := eq_true p204
                      replace q204 := eq_true q204
                      have p205 : 0 ≤ (x7_1 : Int) := of_decide_eq_true (by first | (with_reducible assumption) | assumption)
                      have q205 : x7_1 < (l0.length : Int) := of_decide_eq_true (by first | (with_reducible assumption) | assumption)
                      obtain ⟨ad205, e205, hx205_0, hx205_1, hx205_2, hx205_3⟩ := at_T36 HR0.out x7_1 p205 q205
                      obtain rfl : ad203 = ad205 := (by injection e205)
                      replace p205 := eq_true p205
                      replace q205 := eq_true q205
                      have p206 : 0 ≤ (x7_1 : Int) := of_decide_eq_true (by first | (with_reducible assumption) | assumption)
                      have q206 : x7_1 < (l1.length : Int) := of_decide_eq_true (by first | (with_reducible assumption) | assumption)
                      obtain ⟨ad206, e206, hx206_0, hx206_1, hx206_2, hx206_3⟩ := at_T36 HR1.out x7_1 p206 q206
                      obtain rfl : ad204 = ad206 := (by injection e206)
                      replace p206 := eq_true p206
                      replace q206 := eq_true q206
                      have p207 : 0 ≤ (x7_1 : Int) := of_decide_eq_true (by first | (with_reducible assumption) | assumption)
                      have q207 : x7_1 < (l0.length : Int) := of_decide_eq_true (by first | (with_reducible assumption) | assumption)
                      obtain ⟨ad207, e207, hx207_0, hx207_1, hx207_2, hx207_3⟩ := at_T36 HR0.out x7_1 p207 q207
                      obtain rfl : ad203 = ad207 := (by injection e207)
                      replace p207 := eq_true p207
                      replace q207 := eq_true q207
                      have p208 : 0 ≤ (x7_1 : Int) := of_decide_eq_true (by first | (with_reducible assumption) | assumption)
                      have q208 : x7_1 < (l1.length : Int) := of_decide_eq_true (by first | (with_reducible assumption) | assumption)
                      obtain ⟨ad208, e208, hx208_0, hx208_1, hx208_2, hx208_3⟩ := at_T36 HR1.out x7_1 p208 q208
                      obtain rfl : ad204 = ad208 := (by injection e208)
                      replace p208 := eq_true p208
                      replace q208 := eq_true q208
                      go_wp2
                      repeat (go_quiet (fail); try go_wp2)
                      go_ret
                      exact ⟨by first | rfl | (simp; done) | (simp [*]; done), by repeat (first | exact Drawn0.refl _ | apply Drawn0.step)⟩
                      all_goals (exfalso; simp_all; done)
                    · rw [if_neg c11] at H
                      have c11b0 : (!(((rd_T36 l0 x7_1).f0) == ((rd_T36 l1 x7_1).f0)) || (!((((rd_T36 l0 x7_1).f1).toList) == (((rd_T36 l1 x7_1).f1).toList)) || (!(((rd_T36 l0 x7_1).f2) == ((rd_T36 l1 x7_1).f2)) || (!(((rd_T36 l0 x7_1).f3) == ((rd_T36 l1 x7_1).f3)))))) = false := by simpa using c11
                      have c11b8 : (((rd_T36 l0 x7_1).f2) == ((rd_T36 l1 x7_1).f2)) = true := by (simp only [Bool.or_eq_false_iff, Bool.not_eq_false'] at c11b0; exact c11b0.2.2.1)
                      have c11b9 : (((rd_T36 l0 x7_1).f3) == ((rd_T36 l1 x7_1).f3)) = true := by (simp only [Bool.or_eq_false_iff, Bool.not_eq_false'] at c11b0; exact c11b0.2.2.2)
                      clear c11
                      have H' := Aside0.mk H
                      clear H
                      have p203 : 0 ≤ (x7_1 : Int) := of_decide_eq_true (by first | (with_reducible assumption) | assumption)
                      have q203 : x7_1 < (l0.length : Int) := of_decide_eq_true (by first | (with_reducible assumption) | assumption)
                      obtain ⟨ad203, e203, hx203_0, hx203_1, hx203_2, hx203_3⟩ := at_T36 HR0.out x7_1 p203 q203
                      cases e203
                      replace p203 := eq_true p203
                      replace q203 := eq_true q203
                      have p204 : 0 ≤ (x7_1 : Int) := of_decide_eq_true (by first | (with_reducible assumption) | assumption)
                      have q204 : x7_1 < (l1.length : Int) := of_decide_eq_true (by first | (with_reducible assumption) | assumption)
                      obtain ⟨ad204, e204, hx204_0, hx204_1, hx204_2, hx204_3⟩ := at_T36 HR1.out x7_1 p204 q204
                      cases e204
                      replace p204 := eq_true p204
                      replace q204 := eq_true q204
                      have p205 : 0 ≤ (x7_1 : Int) := of_decide_eq_true (by first | (with_reducible assumption) | assumption)
                      have q205 : x7_1 < (l0.length : Int) := of_decide_eq_true (by first | (with_reducible assumption) | assumption)
                      obtain ⟨ad205, e205, hx205_0, hx205_1, hx205_2, hx205_3⟩ := at_T36 HR0.out x7_1 p205 q205
                      obtain rfl : ad203 = ad205 := (by injection e205)
                      replace p205 := eq_true p205
                      replace q205 := eq_true q205
                      have p206 : 0 ≤ (x7_1 : Int) := of_decide_eq_true (by first | (with_reducible assumption) | assumption)
                      have q206 : x7_1 < (l1.length : Int) := of_decide_eq_true (by first | (with_reducible assumption) | assumption)
                      obtain ⟨ad206, e206, hx206_0, hx206_1, hx206_2, hx206_3⟩ := at_T36 HR1.out x7_1 p206 q206
                      obtain rfl : ad204 = ad206 := (by injection e206)
                      replace p206 := eq_true p206
                      replace q206 := eq_true q206
                      have p207 : 0 ≤ (x7_1 : Int) := of_decide_eq_true (by first | (with_reducible assumption) | assumption)
                      have q207 : x7_1 < (l0.length : Int) := of_decide_eq_true (by first | (with_reducible assumption) | assumption)
                      obtain ⟨ad207, e207, hx207_0, hx207_1, hx207_2, hx207_3⟩ := at_T36 HR0.out x7_1 p207 q207
                      obtain rfl : ad203 = ad207 := (by injection e207)
                      replace p207 := eq_true p207
                      replace q207 := eq_true q207
                      have p208 : 0 ≤ (x7_1 : Int) := of_decide_eq_true (by first | (with_reducible assumption) | assumption)
                      have q208 : x7_1 < (l1.length : Int) := of_decide_eq_true (by first | (with_reducible assumption) | assumption)
                      obtain ⟨ad208, e208, hx208_0, hx208_1, hx208_2, hx208_3⟩ := at_T36 HR1.out x7_1 p208 q208
                      obtain rfl : ad204 = ad208 := (by injection e208)
                      replace p208 := eq_true p208
                      replace q208 := eq_true q208
                      go_wp2
                      repeat (go_quiet (fail); try go_wp2)
                      go_roundg k1
                      case measure => have := HK1.out; omega
                      case rel => exact ⟨(wrap64 (x7_1 + 1)), (by first | rfl | (simp; done) | (simp [*]; done)), H', ⟨by have := HK1.out; omega⟩, by repeat (first | exact Drawn0.refl _ | apply Drawn0.step)⟩
                · rw [if_neg c9] at H
                  have c9b0 : (((rd_T36 l0 x7_1).f1).toList == ((rd_T36 l1 x7_1).f1).toList) = false := beq_eq_false_iff_ne.mpr c9
                  have c9b1 : (((rd_T36 l0 x7_1).f1).toList != ((rd_T36 l1 x7_1).f1).toList) = true := bne_iff_ne.mpr c9
                  obtain rfl := Option.some.inj H
                  have p203 : 0 ≤ (x7_1 : Int) := of_decide_eq_true (by first | (with_reducible assumption) | assumption)
                  have q203 : x7_1 < (l0.length : Int) := of_decide_eq_true (by first | (with_reducible assumption) | assumption)
                  obtain ⟨ad203, e203, hx203_0, hx203_1, hx203_2, hx203_3⟩ := at_T36 HR0.out x7_1 p203 q203
                  cases e203
                  replace p203 := eq_true p203
                  replace q203 := eq_true q203
                  have p204 : 0 ≤ (x7_1 : Int) := of_decide_eq_true (by first | (with_reducible assumption) | assumption)
                  have q204 : x7_1 < (l1.length : Int) := of_decide_eq_true (by first | (with_reducible assumption) | assumption)
                  obtain ⟨ad204, e204, hx204_0, hx204_1, hx204_2, hx204_3⟩ := at_T36 HR1.out x7_1 p204 q204
                  cases e204
                  replace p204 := eq_true p204
                  replace q204 := eq_true q204
                  have p205 : 0 ≤ (x7_1 : Int) := of_decide_eq_true (by first | (with_reducible assumption) | assumption)
                  have q205 : x7_1 < (l0.length : Int) := of_decide_eq_true (by first | (with_reducible assumption) | assumption)
                  obtain ⟨ad205, e205, hx205_0, hx205_1, hx205_2, hx205_3⟩ := at_T36 HR0.out x7_1 p205 q205
                  obtain rfl : ad203 = ad205 := (by injection e205)
                  replace p205 := eq_true p205
                  replace q205 := eq_true q205
                  have p206 : 0 ≤ (x7_1 : Int) := of_decide_eq_true (by first | (with_reducible assumption) | assumption)
                  have q206 : x7_1 < (l1.length : Int) := of_decide_eq_true (by first | (with_reducible assumption) | assumption)
                  obtain ⟨ad206, e206, hx206_0, hx206_1, hx206_2, hx206_3⟩ := at_T36 HR1.out x7_1 p206 q206
                  obtain rfl : ad204 = ad206 := (by injection e206)
                  replace p206 := eq_true p206
                  replace q206 := eq_true q206
                  go_wp2
                  repeat (go_quiet (fail); try go_wp2)
                  go_ret
                  exact ⟨by first | rfl | (simp; done) | (simp [*]; done), by repeat (first | exact Drawn0.refl _ | apply Drawn0.step)⟩
              · rw [if_neg c8] at H
                have c8b0 : (((rd_T36 l0 x7_1).f0) == ((rd_T36 l1 x7_1).f0)) = false := beq_eq_false_iff_ne.mpr c8
                have c8b1 : (((rd_T36 l0 x7_1).f0) != ((rd_T36 l1 x7_1).f0)) = true := bne_iff_ne.mpr c8
                obtain rfl := Option.some.inj H
                have p203 : 0 ≤ (x7_1 : Int) := of_decide_eq_true (by first | (with_reducible assumption) | assumption)
                have q203 : x7_1 < (l0.length : Int) := of_decide_eq_true (by first | (with_reducible assumption) | assumption)
                obtain ⟨ad203, e203, hx203_0, hx203_1, hx203_2, hx203_3⟩ := at_T36 HR0.out x7_1 p203 q203
                cases e203
                replace p203 := eq_true p203
                replace q203 := eq_true q203
                have p204 : 0 ≤ (x7_1 : Int) := of_decide_eq_true (by first | (with_reducible assumption) | assumption)
                have q204 : x7_1 < (l1.length : Int) := of_decide_eq_true (by first | (with_reducible assumption) | assumption)
                obtain ⟨ad204, e204, hx204_0, hx204_1, hx204_2, hx204_3⟩ := at_T36 HR1.out x7_1 p204 q204
                cases e204
                replace p204 := eq_true p204
                replace q204 := eq_true q204
                go_wp2
                repeat (go_quiet (fail); try go_wp2)
                go_ret
                exact ⟨by first | rfl | (simp; done) | (simp [*]; done), by repeat (first | exact Drawn0.refl _ | apply Drawn0.step)⟩
            · rw [if_neg c7] at H
              exact absurd H (by simp)
          · rw [if_neg c6] at H
            exact absurd H (by simp)
        · rw [if_neg c5] at H
          have c5b0 : decide (x7_1 < (l0.length : Int)) = false := decide_eq_false c5
          clear c5
          obtain rfl := Option.some.inj H
          go_wp2
          repeat (go_quiet (fail); try go_wp2)
          go_ret
          exact ⟨by first | rfl | (simp; done) | (simp [*]; done), by repeat (first | exact Drawn0.refl _ | apply Drawn0.step)⟩
  · rw [if_neg c4] at H
    have c4b0 : ((l0.length : Int) == (l1.length : Int)) = false := beq_eq_false_iff_ne.mpr c4
    have c4b1 : ((l0.length : Int) != (l1.length : Int)) = true := bne_iff_ne.mpr c4
    have c4b2 : (l0.length == l1.length) = false := by first | simpa using c4 | (simp at c4 ⊢; omega)
    obtain rfl := Option.some.inj H
    go_enter Tryd.func10, Tryd.ntmps10
    go_wp2
    repeat (go_quiet (fail); try go_wp2)
    go_ret
    exact ⟨by first | rfl | (simp; done) | (simp [*]; done), by repeat (first | exact Drawn0.refl _ | apply Drawn0.step)⟩
end Go.Proofs.YtfndanccnjggfaaDoor.Q
-- Written by this session's program (a turned print).
namespace Go.Proofs.YtfndanccnjggfaaDoor.Q
open Go.RowKit Go.Proofs.YtfndanccnjggfaaDoorW.PrintWords Go.Proofs.YtfndanccnjggfaaDoorW.PrintLast Go.Proofs.YtfndanccnjggfaaDoorW.PrintMore
attribute [local go_sem] max2_int min2_int max_two min_two max_three min_three max_four min_four   -- for this text's walks alone
set_option linter.unusedVariables false
set_option linter.unusedSimpArgs false
attribute [local go_sem high] eqA26
/-! ### portcullislaw15_LexReads: function 3 -/
def portcullislaw15_LexReads.j0 : Nat → ByteArray → Bool → Option (Bool)
  | 0, _, _ => none
  | k + 1, x0, x19 => if x19 = true then ((portcullislaw15_alive.f).bind fun t209 => (some t209)) else ((lex_Lex.f x0).bind fun bt210 => ((portcullisref15_Lex.f k x0).bind fun bt217 => (if (bt210.2.1 == bt217.2.1 && (bt210.2.2.1 == bt217.2.2.1 && (bt210.2.2.2 == bt217.2.2.2))) = true then ((portcullisref15_Same.f k bt210.1 bt217.1 false).bind fun t224 => (if t224 = true then ((portcullislaw15_alive.f).bind fun t225 => (some t225)) else (some false))) else (some false))))
def portcullislaw15_LexReads.f (k : Nat) (a0 : ByteArray) : Option (Bool) := if (a0.size : Int) > 8192 then (if (a0.size : Int) ≤ 65536 then (portcullislaw15_LexReads.j0 k a0 true) else (portcullislaw15_LexReads.j0 k a0 (decide ((a0.size : Int) > 65635)))) else (portcullislaw15_LexReads.j0 k a0 (decide ((a0.size : Int) > 65635)))
theorem portcullislaw15_LexReads.mono_l : ∀ k, (∀ y0 y1, LeO (portcullislaw15_LexReads.j0 k y0 y1) (portcullislaw15_LexReads.j0 (k + 1) y0 y1))
  | 0 => fun _ _ r h => by simp [portcullislaw15_LexReads.j0] at h
  | k + 1 => by
    have ih0 := portcullislaw15_LexReads.mono_l k
    · intro y0 y1
      unfold portcullislaw15_LexReads.j0
      repeat' first
      | (with_reducible exact ih0 _ _)
      | (with_reducible exact portcullisref15_Lex.mono _ _)
      | (with_reducible exact portcullisref15_Same.mono _ _ _ _)
      | (with_reducible exact LeO.refl _)
      | (with_reducible exact LeO.none _)
      | (with_reducible refine LeO.ite ?_ ?_)
      | (with_reducible refine LeO.bind ?_ (fun _ => ?_))
      | exact ih0 _ _
      | exact portcullisref15_Lex.mono _ _
      | exact portcullisref15_Same.mono _ _ _ _
      | exact LeO.none _
      | refine LeO.ite ?_ ?_
      | refine LeO.bind ?_ (fun _ => ?_)
theorem portcullislaw15_LexReads.mono : ∀ a0 k, LeO (portcullislaw15_LexReads.f k a0) (portcullislaw15_LexReads.f (k + 1) a0) := by
  intro a0 k
  have ih0 := portcullislaw15_LexReads.mono_l k
  unfold portcullislaw15_LexReads.f
  repeat' first
      | (with_reducible exact ih0 _ _)
      | (with_reducible exact portcullisref15_Lex.mono _ _)
      | (with_reducible exact portcullisref15_Same.mono _ _ _ _)
      | (with_reducible exact LeO.refl _)
      | (with_reducible exact LeO.none _)
      | (with_reducible refine LeO.ite ?_ ?_)
      | (with_reducible refine LeO.bind ?_ (fun _ => ?_))
      | exact ih0 _ _
      | exact portcullisref15_Lex.mono _ _
      | exact portcullisref15_Same.mono _ _ _ _
      | exact LeO.none _
      | refine LeO.ite ?_ ?_
      | refine LeO.bind ?_ (fun _ => ?_)
set_option maxHeartbeats 8000000 in
set_option maxRecDepth 100000 in
theorem portcullislaw15_LexReads.calls (k : Nat) (a0 : ByteArray) (r : Bool) (w : World) (hG : Glob w) (h : portcullislaw15_LexReads.f k a0 = some r) :
    Calls Tryd.prog 3 #[.string a0] w fun e w' => e = .returned (.bool r) ∧ Below w.heap.size w w' := by
  have HG := Aside0.mk hG
  clear hG
  have hu26 := Tryd.underlying26
  have HB := Aside0.mk (Below.refl w.heap.size w)
  have H : (if (a0.size : Int) > 8192 then (if (a0.size : Int) ≤ 65536 then (portcullislaw15_LexReads.j0 k a0 true) else (portcullislaw15_LexReads.j0 k a0 (decide ((a0.size : Int) > 65635)))) else (portcullislaw15_LexReads.j0 k a0 (decide ((a0.size : Int) > 65635)))) = some r := h
  clear h
  have HC2 := Aside0.mk H
  clear H
  go_enter Tryd.func3, Tryd.ntmps3
  go_upto_region 1 with (fail)
  go_cut [19] (fun v19 wc => ∃ (kq : Nat) (x19_1 : Bool), v19 = .bool x19_1 ∧ Aside0 (portcullislaw15_LexReads.j0 kq a0 x19_1 = some r) ∧ Aside0 (kq ≤ k) ∧ Aside0 (Below w.heap.size w wc))
  case first =>
    have H := HC2.out
    clear HC2
    by_cases c3 : (a0.size : Int) > 8192
    · rw [if_pos c3] at H
      have c3b0 : decide (8192 < (a0.size : Int)) = true := decide_eq_true c3
      have c3b1 : decide (8192 < a0.size) = true := decide_eq_true (by omega)
      have c3b2 : 8192 < a0.size := by omega
      clear c3
      (first | rw [c3b0] | (simp only [i64_w, i32_w]; rw [c3b0]) | skip)
      by_cases c4 : (a0.size : Int) ≤ 65536
      · rw [if_pos c4] at H
        have c4b0 : decide ((a0.size : Int) ≤ 65536) = true := decide_eq_true c4
        have c4b1 : decide (a0.size ≤ 65536) = true := decide_eq_true (by omega)
        have c4b2 : a0.size ≤ 65536 := by omega
        clear c4
        have H' := Aside0.mk H
        clear H
        go_wp2
        go_meet
        case rel => exact ⟨_, (true), (by first | rfl | (simp; done) | (simp [*]; done)), H', ⟨by first | omega | exact Nat.le_refl _⟩, ⟨by repeat (first | (with_reducible first | exact HB.out | apply below_alloc | apply pw_below_drewN | apply below_drew1) | exact HB.out)⟩⟩
      · rw [if_neg c4] at H
        have c4b0 : decide ((a0.size : Int) ≤ 65536) = false := decide_eq_false c4
        have c4b1 : decide (a0.size ≤ 65536) = false := decide_eq_false (by omega)
        have c4b2 : 65536 < a0.size := by omega
        clear c4
        have H' := Aside0.mk H
        clear H
        go_wp2
        go_meet
        case rel => exact ⟨_, (decide ((a0.size : Int) > 65635)), (by first | rfl | (simp; done) | (simp [*]; done)), H', ⟨by first | omega | exact Nat.le_refl _⟩, ⟨by repeat (first | (with_reducible first | exact HB.out | apply below_alloc | apply pw_below_drewN | apply below_drew1) | exact HB.out)⟩⟩
    · rw [if_neg c3] at H
      have c3b0 : decide (8192 < (a0.size : Int)) = false := decide_eq_false c3
      have c3b1 : decide (8192 < a0.size) = false := decide_eq_false (by omega)
      have c3b2 : a0.size ≤ 8192 := by omega
      clear c3
      (first | rw [c3b0] | (simp only [i64_w, i32_w]; rw [c3b0]) | skip)
      have H' := Aside0.mk H
      clear H
      go_wp2
      go_meet
      case rel => exact ⟨_, (decide ((a0.size : Int) > 65635)), (by first | rfl | (simp; done) | (simp [*]; done)), H', ⟨by first | omega | exact Nat.le_refl _⟩, ⟨by repeat (first | (with_reducible first | exact HB.out | apply below_alloc | apply pw_below_drewN | apply below_drew1) | exact HB.out)⟩⟩
  case rest =>
    clear HC2
    try clear p2
    try clear c3
    try clear c3b0
    try clear c3b1
    try clear c3b2
    try clear c4
    try clear c4b0
    try clear c4b1
    try clear c4b2
    obtain ⟨kq, x19_1, rfl, HA, HJ1, HB⟩ := hcut
    cases kq with
    | zero => exact absurd HA.out (by simp [portcullislaw15_LexReads.j0])
    | succ kj1 =>
      have H := HA.out
      clear HA
      simp only [portcullislaw15_LexReads.j0] at H
      by_cases c5 : x19_1 = true
      · subst c5
        have H1 : ((portcullislaw15_alive.f).bind fun t209 => (some t209)) = some r := by rw [if_pos rfl] at H; exact H
        clear H
        have H := H1
        clear H1
        replace H := Option.bind_eq_some_iff.mp H
        obtain ⟨t209, A60, H⟩ := H
        replace H : (some t209) = some r := H
        have A6 := Aside0.mk A60
        clear A60
        obtain rfl := Option.some.inj H
        go_wp2_with (first | ((with_reducible refine gate_callee (f := 7) rfl ?_); refine goesL_ (some 20) rfl rfl Tryd.func7 (by kernel_rfl) rfl #[] rfl (by (try simp only [List.map_toArray, List.map_cons, List.map_nil]); first | done | rfl | (simp only [List.length_drop, List.length_take]; rfl)) ?_; (with_reducible refine (portcullislaw15_alive.calls  t209 _ (Glob.below HG.out (by repeat (first | (with_reducible first | exact HB.out | apply below_alloc | apply pw_below_drewN | apply below_drew1) | exact HB.out))) A6.out).mono ?_); rintro e w7 ⟨rfl, hb⟩; refine ⟨_, rfl, ?_⟩; have n0_ := Aside0.mk (below_step (by repeat (first | (with_reducible first | exact HB.out | apply below_alloc | apply pw_below_drewN | apply below_drew1) | exact HB.out)) hb); clear HB; have HB := n0_; clear n0_; (try clear hb); (try clear hb2); (try clear hk); (try clear hi)))
        go_ret
        exact ⟨by first | rfl | (simp [errW_none, errW_some] <;> rfl) | (simp [*, errW_none, errW_some] <;> rfl), by repeat (first | (with_reducible first | exact HB.out | apply below_alloc | apply pw_below_drewN | apply below_drew1) | exact HB.out)⟩
      · replace c5 := Bool.eq_false_iff.mpr c5
        subst c5
        have H1 : ((lex_Lex.f a0).bind fun bt210 => ((portcullisref15_Lex.f kj1 a0).bind fun bt217 => (if (bt210.2.1 == bt217.2.1 && (bt210.2.2.1 == bt217.2.2.1 && (bt210.2.2.2 == bt217.2.2.2))) = true then ((portcullisref15_Same.f kj1 bt210.1 bt217.1 false).bind fun t224 => (if t224 = true then ((portcullislaw15_alive.f).bind fun t225 => (some t225)) else (some false))) else (some false)))) = some r := by rw [if_neg (show ¬ (false = true) by decide)] at H; exact H
        clear H
        have H := H1
        clear H1
        replace H := Option.bind_eq_some_iff.mp H
        obtain ⟨⟨t210, t213, t214, t215⟩, A80, H⟩ := H
        replace H : ((portcullisref15_Lex.f kj1 a0).bind fun bt217 => (if (t213 == bt217.2.1 && (t214 == bt217.2.2.1 && (t215 == bt217.2.2.2))) = true then ((portcullisref15_Same.f kj1 t210 bt217.1 false).bind fun t224 => (if t224 = true then ((portcullislaw15_alive.f).bind fun t225 => (some t225)) else (some false))) else (some false))) = some r := H
        have A8 := Aside0.mk A80
        clear A80
        replace H := Option.bind_eq_some_iff.mp H
        obtain ⟨⟨t217, t220, t221, t222⟩, A90, H⟩ := H
        replace H : (if (t213 == t220 && (t214 == t221 && (t215 == t222))) = true then ((portcullisref15_Same.f kj1 t210 t217 false).bind fun t224 => (if t224 = true then ((portcullislaw15_alive.f).bind fun t225 => (some t225)) else (some false))) else (some false)) = some r := H
        have A9 := Aside0.mk A90
        clear A90
        by_cases c10 : (t213 == t220 && (t214 == t221 && (t215 == t222))) = true
        · rw [if_pos c10] at H
          have c10b0 : (t213 == t220 && (t214 == t221 && (t215 == t222))) = true := c10
          (try (have c10b1 : decide (t213 = t220 && (t214 == t221 && (t215 == t222))) = true := by simpa using c10))
          (try (have c10b2 : (t213 == t220 && (t214 == t221 && (t215 == t222))) = true := by simpa using c10))
          clear c10
          replace H := Option.bind_eq_some_iff.mp H
          obtain ⟨t224, A110, H⟩ := H
          replace H : (if t224 = true then ((portcullislaw15_alive.f).bind fun t225 => (some t225)) else (some false)) = some r := H
          have A11 := Aside0.mk A110
          clear A110
          by_cases c12 : t224 = true
          · subst c12
            have H1 : ((portcullislaw15_alive.f).bind fun t225 => (some t225)) = some r := by rw [if_pos rfl] at H; exact H
            clear H
            have H := H1
            clear H1
            replace H := Option.bind_eq_some_iff.mp H
            obtain ⟨t225, A130, H⟩ := H
            replace H : (some t225) = some r := H
            have A13 := Aside0.mk A130
            clear A130
            obtain rfl := Option.some.inj H
            go_wp2_with (first | ((with_reducible refine gate_callee (f := 8) rfl ?_); refine goesL_ (some 23) rfl rfl Tryd.func8 (by kernel_rfl) rfl #[.string a0] rfl (by (try simp only [List.map_toArray, List.map_cons, List.map_nil]); first | done | rfl | (simp only [List.length_drop, List.length_take]; rfl)) ?_; (with_reducible refine (lex_Lex.calls a0 t210 t213 t214 t215 _ (Glob.below HG.out (by repeat (first | (with_reducible first | exact HB.out | apply below_alloc | apply pw_below_drewN | apply below_drew1) | exact HB.out))) A8.out).mono ?_); rintro e w14 ⟨v211, rfl, ho0, hb⟩; refine ⟨_, rfl, ?_⟩; have n0_ := Aside0.mk (Kd.V_lower (Kd.V_mono (ok' := fun k_ => True) ho0 (fun k_ hk_ => trivial)) (below_size (by repeat (first | (with_reducible first | exact HB.out | apply below_alloc | apply pw_below_drewN | apply below_drew1) | exact HB.out)))); have n1_ := Aside0.mk (below_step (by repeat (first | (with_reducible first | exact HB.out | apply below_alloc | apply pw_below_drewN | apply below_drew1) | exact HB.out)) hb); clear HB; have HO212 := n0_; have HB := n1_; clear n0_ n1_; (try clear hb); (try clear hb2); (try clear hk); (try clear hi); (try clear ho0)) | ((with_reducible refine gate_dst (N := 4) rfl ?_); (try (refine gate_guard (by rfl) ?_; dsimp only)); refine box_event ?hg (N := 4) ?hd (cs := #[.int .i64 0, .int .i64 0, .int .i64 0]) (t := 26) ?hr ?_; (case hd => rfl); (case hg => rfl); (case hr => first | (go_simp; done) | (go_simp; rfl)); intro gb216 hg w15 hbox hb; have n0_ := Aside0.mk (Kd.V_below (Kd.V_elderB (by (with_reducible repeat (first | apply Kd.V_alloc | apply Kd.V_drewN | apply Kd.V_drew)); exact HO212.out) gb216 (Nat.le_of_eq hg.symm)) hb); have n1_ := Aside0.mk (below_step (by repeat (first | (with_reducible first | exact HB.out | apply below_alloc | apply pw_below_drewN | apply below_drew1) | exact HB.out)) hb); have n2_ := Aside0.mk (hbox); have n3_ := Aside0.mk ((by rw [hg]; exact (below_size (by repeat (first | (with_reducible first | exact HB.out | apply below_alloc | apply pw_below_drewN | apply below_drew1) | exact HB.out))) : w.heap.size ≤ gb216)); have n4_ := Aside0.mk ((by rw [hg]; exact (below_size (by repeat (first | (with_reducible first | exact HB.out | apply below_alloc | apply pw_below_drewN | apply below_drew1) | exact HB.out))) : w.heap.size ≤ gb216)); clear HO212; clear HB; have HO212 := n0_; have HB := n1_; have BK216 := n2_; have GW216 := n3_; have GE216 := n4_; clear n0_ n1_ n2_ n3_ n4_; clear hb hbox hg; have hcz16_0 : w15.cell? ⟨gb216, 0, none⟩ = some (.int .i64 0) := (blk_cell BK216.out 0).trans rfl; have hcz16_1 : w15.cell? ⟨gb216, 1, none⟩ = some (.int .i64 0) := (blk_cell BK216.out 1).trans rfl; have hcz16_2 : w15.cell? ⟨gb216, 2, none⟩ = some (.int .i64 0) := (blk_cell BK216.out 2).trans rfl; have hfz16_0 := blk_frozen BK216.out 0; have hfz16_1 := blk_frozen BK216.out 1; have hfz16_2 := blk_frozen BK216.out 2) | ((with_reducible refine gate_callee (f := 9) rfl ?_); refine goesL_ (some 28) rfl rfl Tryd.func9 (by kernel_rfl) rfl #[.string a0] rfl (by (try simp only [List.map_toArray, List.map_cons, List.map_nil]); first | done | rfl | (simp only [List.length_drop, List.length_take]; rfl)) ?_; (with_reducible refine (portcullisref15_Lex.calls kj1 a0 t217 t220 t221 t222 _ A9.out).mono ?_); rintro e w17 ⟨v218, rfl, ho0, hb⟩; refine ⟨_, rfl, ?_⟩; have n0_ := Aside0.mk (Kd.V_elder' (by (with_reducible repeat (first | apply Kd.V_alloc | apply Kd.V_drewN | apply Kd.V_drew)); exact (Kd.V_mono (Kd.V_far (p := ⟨gb216, 2, none⟩) (Kd.V_far (p := ⟨gb216, 1, none⟩) (Kd.V_far (p := ⟨gb216, 0, none⟩) (Kd.V_mono HO212.out (fun k_ hk => (⟨hk, hk.2⟩ : _ ∧ k_ ≠ gb216))) (fun _ hk => hk.2) (.int .i64 t213)) (fun _ hk => hk.2) (.int .i64 t214)) (fun _ hk => hk.2) (.int .i64 t215)) (fun _ h_ => h_.1))) (Kd.R_base ho0) hb); have n1_ := Aside0.mk (Kd.R_lower ho0 (below_size (by repeat (first | (with_reducible first | exact HB.out | apply below_alloc | apply pw_below_drewN | apply below_drew1 | refine below_set ?_ GE216.out) | exact HB.out)))); have n2_ := Aside0.mk (blk_below (g := gb216) (o := .cells #[.int .i64 t213, .int .i64 t214, .int .i64 t215] 26 (0, 0)) (by (with_reducible repeat (first | refine blk_drewN ?_ _ | refine blk_drew ?_ | refine blk_alloc ?_ _)); refine blk_put (cs := #[.int .i64 t213, .int .i64 t214, .int .i64 0]) ?_ 2 _ rfl; (with_reducible repeat (first | refine blk_drewN ?_ _ | refine blk_drew ?_ | refine blk_alloc ?_ _)); refine blk_put (cs := #[.int .i64 t213, .int .i64 0, .int .i64 0]) ?_ 1 _ rfl; (with_reducible repeat (first | refine blk_drewN ?_ _ | refine blk_drew ?_ | refine blk_alloc ?_ _)); refine blk_put (cs := #[.int .i64 0, .int .i64 0, .int .i64 0]) ?_ 0 _ rfl; (with_reducible repeat (first | refine blk_drewN ?_ _ | refine blk_drew ?_ | refine blk_alloc ?_ _)); exact BK216.out) hb); have n3_ := Aside0.mk (below_step (by repeat (first | (with_reducible first | exact HB.out | apply below_alloc | apply pw_below_drewN | apply below_drew1 | refine below_set ?_ GE216.out) | exact HB.out)) hb); clear HO212; clear BK216; clear HB; have HO212 := n0_; have HO219 := n1_; have BK216 := n2_; have HB := n3_; clear n0_ n1_ n2_ n3_; (try clear hb); (try clear hb2); (try clear hk); (try clear hi); (try clear ho0)) | ((with_reducible refine gate_dst (N := 6) rfl ?_); (try (refine gate_guard (by rfl) ?_; dsimp only)); refine box_event ?hg (N := 6) ?hd (cs := #[.int .i64 0, .int .i64 0, .int .i64 0]) (t := 26) ?hr ?_; (case hd => rfl); (case hg => rfl); (case hr => first | (go_simp; done) | (go_simp; rfl)); intro gb223 hg w18 hbox hb; have n0_ := Aside0.mk (Kd.V_below (Kd.V_elderB (by (with_reducible repeat (first | apply Kd.V_alloc | apply Kd.V_drewN | apply Kd.V_drew)); exact HO212.out) gb223 (Nat.le_of_eq hg.symm)) hb); have n1_ := Aside0.mk (Kd.R_below (by (with_reducible repeat (first | apply Kd.R_alloc | apply Kd.R_drewN | apply Kd.R_drew)); exact HO219.out) hb); have n2_ := Aside0.mk (blk_below (g := gb216) (o := .cells #[.int .i64 t213, .int .i64 t214, .int .i64 t215] 26 (0, 0)) (by (with_reducible repeat (first | refine blk_drewN ?_ _ | refine blk_drew ?_ | refine blk_alloc ?_ _)); exact BK216.out) hb); have n3_ := Aside0.mk (below_step (by repeat (first | (with_reducible first | exact HB.out | apply below_alloc | apply pw_below_drewN | apply below_drew1 | refine below_set ?_ GE216.out) | exact HB.out)) hb); have n4_ := Aside0.mk (hbox); have n5_ := Aside0.mk ((by rw [hg]; exact (below_size (by repeat (first | (with_reducible first | exact HB.out | apply below_alloc | apply pw_below_drewN | apply below_drew1 | refine below_set ?_ GE216.out) | exact HB.out))) : w.heap.size ≤ gb223)); have n6_ := Aside0.mk ((by rw [hg]; exact (below_size (by repeat (first | (with_reducible first | exact HB.out | apply below_alloc | apply pw_below_drewN | apply below_drew1 | refine below_set ?_ GE216.out) | exact HB.out))) : w.heap.size ≤ gb223)); have n7_ := Aside0.mk ((by rw [hg]; exact Nat.ne_of_lt (blk_lt (g := gb216) (o := .cells #[.int .i64 t213, .int .i64 t214, .int .i64 t215] 26 (0, 0)) (by (with_reducible repeat (first | refine blk_drewN ?_ _ | refine blk_drew ?_ | refine blk_alloc ?_ _)); exact BK216.out)) : gb216 ≠ gb223)); have n8_ := Aside0.mk ((by rw [hg]; exact Nat.ne_of_gt (blk_lt (g := gb216) (o := .cells #[.int .i64 t213, .int .i64 t214, .int .i64 t215] 26 (0, 0)) (by (with_reducible repeat (first | refine blk_drewN ?_ _ | refine blk_drew ?_ | refine blk_alloc ?_ _)); exact BK216.out)) : gb223 ≠ gb216)); clear HO212; clear HO219; clear BK216; clear HB; have HO212 := n0_; have HO219 := n1_; have BK216 := n2_; have HB := n3_; have BK223 := n4_; have GW223 := n5_; have GE223 := n6_; have NB216_223 := n7_; have NB223_216 := n8_; clear n0_ n1_ n2_ n3_ n4_ n5_ n6_ n7_ n8_; clear hb hbox hg; have hnb19 := NB223_216.out; have hnc19 := NB216_223.out; have hcz20_0 : w18.cell? ⟨gb223, 0, none⟩ = some (.int .i64 0) := (blk_cell BK223.out 0).trans rfl; have hcz20_1 : w18.cell? ⟨gb223, 1, none⟩ = some (.int .i64 0) := (blk_cell BK223.out 1).trans rfl; have hcz20_2 : w18.cell? ⟨gb223, 2, none⟩ = some (.int .i64 0) := (blk_cell BK223.out 2).trans rfl; have hfz20_0 := blk_frozen BK223.out 0; have hfz20_1 := blk_frozen BK223.out 1; have hfz20_2 := blk_frozen BK223.out 2; have hcz21_0 : w18.cell? ⟨gb216, 0, none⟩ = some (.int .i64 t213) := (blk_cell BK216.out 0).trans rfl; have hcz21_1 : w18.cell? ⟨gb216, 1, none⟩ = some (.int .i64 t214) := (blk_cell BK216.out 1).trans rfl; have hcz21_2 : w18.cell? ⟨gb216, 2, none⟩ = some (.int .i64 t215) := (blk_cell BK216.out 2).trans rfl; have hfz21_0 := blk_frozen BK216.out 0; have hfz21_1 := blk_frozen BK216.out 1; have hfz21_2 := blk_frozen BK216.out 2; obtain ⟨Ao22, co22, eo22⟩ := Kd.V_slice HO212.out; subst eo22; obtain ⟨Ao23, co23, eo23⟩ := Kd.R_slice HO219.out; subst eo23) | (go_at_call 10; (with_reducible refine (portcullisref15_Same.calls kj1 _ _ t210 _ _ t217 false true _ ?side1 ?side2 ?side3 ?side4 A11.out).mono ?_); (case side1 => refine (Kd.V_reads' (e := 36) (base := w.heap.size) (ok := fun k_ => (((True ∧ k_ ≠ gb216) ∧ some k_ ≠ (.slice Ao23 t217.length co23 : Value).ownBlock) ∧ k_ ≠ gb223)) (n := t210.length) (c := co22) ?_).2.2; exact (by (with_reducible repeat (first | apply Kd.V_alloc | apply Kd.V_drewN | apply Kd.V_drew)); exact (Kd.V_mono (Kd.V_far (p := ⟨gb223, 2, none⟩) (Kd.V_far (p := ⟨gb223, 1, none⟩) (Kd.V_far (p := ⟨gb223, 0, none⟩) (Kd.V_mono HO212.out (fun k_ hk => (⟨hk, hk.2⟩ : _ ∧ k_ ≠ gb223))) (fun _ hk => hk.2) (.int .i64 t220)) (fun _ hk => hk.2) (.int .i64 t221)) (fun _ hk => hk.2) (.int .i64 t222)) (fun _ h_ => h_.1)))); (case side2 => exact (Kd.V_reads' HO212.out).2.1); (case side3 => refine (Kd.R_reads' (e := 36) (base := w.heap.size) (ok := fun k_ => True) (n := t217.length) (c := co23) ?_).2.2; exact (by (with_reducible repeat (first | apply Kd.R_alloc | apply Kd.R_drewN | apply Kd.R_drew)); exact (Kd.R_mono (Kd.R_far (p := ⟨gb223, 2, none⟩) (Kd.R_far (p := ⟨gb223, 1, none⟩) (Kd.R_far (p := ⟨gb223, 0, none⟩) (Kd.R_types HO219.out BK223.out (by decide)) (fun _ hk => hk.2) (.int .i64 t220)) (fun _ hk => hk.2) (.int .i64 t221)) (fun _ hk => hk.2) (.int .i64 t222)) (fun _ h_ => h_.1)))); (case side4 => exact (Kd.R_reads' HO219.out).2.1); rintro e w' ⟨rfl, ⟨nd, rfl⟩⟩) | (go_at_call 7; (with_reducible refine (portcullislaw15_alive.calls  t225 _ (Glob.below HG.out (by repeat (first | (with_reducible first | exact HB.out | apply below_alloc | apply pw_below_drewN | apply below_drew1 | refine below_set ?_ GE216.out | refine below_set ?_ GE223.out) | exact HB.out))) A13.out).mono ?_); rintro e w24 ⟨rfl, hb⟩; have n0_ := Aside0.mk (Kd.V_below (by (with_reducible repeat (first | apply Kd.V_alloc | apply Kd.V_drewN | apply Kd.V_drew)); exact (Kd.V_mono (Kd.V_far (p := ⟨gb223, 2, none⟩) (Kd.V_far (p := ⟨gb223, 1, none⟩) (Kd.V_far (p := ⟨gb223, 0, none⟩) (Kd.V_mono HO212.out (fun k_ hk => (⟨hk, hk.2⟩ : _ ∧ k_ ≠ gb223))) (fun _ hk => hk.2) (.int .i64 t220)) (fun _ hk => hk.2) (.int .i64 t221)) (fun _ hk => hk.2) (.int .i64 t222)) (fun _ h_ => h_.1))) hb); have n1_ := Aside0.mk (Kd.R_below (by (with_reducible repeat (first | apply Kd.R_alloc | apply Kd.R_drewN | apply Kd.R_drew)); exact (Kd.R_mono (Kd.R_far (p := ⟨gb223, 2, none⟩) (Kd.R_far (p := ⟨gb223, 1, none⟩) (Kd.R_far (p := ⟨gb223, 0, none⟩) (Kd.R_types HO219.out BK223.out (by decide)) (fun _ hk => hk.2) (.int .i64 t220)) (fun _ hk => hk.2) (.int .i64 t221)) (fun _ hk => hk.2) (.int .i64 t222)) (fun _ h_ => h_.1))) hb); have n2_ := Aside0.mk (blk_below (g := gb216) (o := .cells #[.int .i64 t213, .int .i64 t214, .int .i64 t215] 26 (0, 0)) (by (with_reducible repeat (first | refine blk_drewN ?_ _ | refine blk_drew ?_ | refine blk_alloc ?_ _)); refine blk_far ?_ NB216_223.out _; (with_reducible repeat (first | refine blk_drewN ?_ _ | refine blk_drew ?_ | refine blk_alloc ?_ _)); refine blk_far ?_ NB216_223.out _; (with_reducible repeat (first | refine blk_drewN ?_ _ | refine blk_drew ?_ | refine blk_alloc ?_ _)); refine blk_far ?_ NB216_223.out _; (with_reducible repeat (first | refine blk_drewN ?_ _ | refine blk_drew ?_ | refine blk_alloc ?_ _)); exact BK216.out) hb); have n3_ := Aside0.mk (blk_below (g := gb223) (o := .cells #[.int .i64 t220, .int .i64 t221, .int .i64 t222] 26 (0, 0)) (by (with_reducible repeat (first | refine blk_drewN ?_ _ | refine blk_drew ?_ | refine blk_alloc ?_ _)); refine blk_put (cs := #[.int .i64 t220, .int .i64 t221, .int .i64 0]) ?_ 2 _ rfl; (with_reducible repeat (first | refine blk_drewN ?_ _ | refine blk_drew ?_ | refine blk_alloc ?_ _)); refine blk_put (cs := #[.int .i64 t220, .int .i64 0, .int .i64 0]) ?_ 1 _ rfl; (with_reducible repeat (first | refine blk_drewN ?_ _ | refine blk_drew ?_ | refine blk_alloc ?_ _)); refine blk_put (cs := #[.int .i64 0, .int .i64 0, .int .i64 0]) ?_ 0 _ rfl; (with_reducible repeat (first | refine blk_drewN ?_ _ | refine blk_drew ?_ | refine blk_alloc ?_ _)); exact BK223.out) hb); have n4_ := Aside0.mk (below_step (by repeat (first | (with_reducible first | exact HB.out | apply below_alloc | apply pw_below_drewN | apply below_drew1 | refine below_set ?_ GE216.out | refine below_set ?_ GE223.out) | exact HB.out)) hb); clear HO212; clear HO219; clear BK216; clear BK223; clear HB; have HO212 := n0_; have HO219 := n1_; have BK216 := n2_; have BK223 := n3_; have HB := n4_; clear n0_ n1_ n2_ n3_ n4_; (try clear hb); (try clear hb2); (try clear hk); (try clear hi)))
            go_ret
            exact ⟨by first | rfl | (simp [errW_none, errW_some] <;> rfl) | (simp [*, errW_none, errW_some] <;> rfl), by repeat (first | (with_reducible first | exact HB.out | apply below_alloc | apply pw_below_drewN | apply below_drew1 | refine below_set ?_ GE216.out | refine below_set ?_ GE223.out) | exact HB.out)⟩
          · replace c12 := Bool.eq_false_iff.mpr c12
            subst c12
            have H1 : (some false) = some r := by rw [if_neg (show ¬ (false = true) by decide)] at H; exact H
            clear H
            have H := H1
            clear H1
            obtain rfl := Option.some.inj H
            go_wp2_with (first | ((with_reducible refine gate_callee (f := 8) rfl ?_); refine goesL_ (some 23) rfl rfl Tryd.func8 (by kernel_rfl) rfl #[.string a0] rfl (by (try simp only [List.map_toArray, List.map_cons, List.map_nil]); first | done | rfl | (simp only [List.length_drop, List.length_take]; rfl)) ?_; (with_reducible refine (lex_Lex.calls a0 t210 t213 t214 t215 _ (Glob.below HG.out (by repeat (first | (with_reducible first | exact HB.out | apply below_alloc | apply pw_below_drewN | apply below_drew1) | exact HB.out))) A8.out).mono ?_); rintro e w25 ⟨v211, rfl, ho0, hb⟩; refine ⟨_, rfl, ?_⟩; have n0_ := Aside0.mk (Kd.V_lower (Kd.V_mono (ok' := fun k_ => True) ho0 (fun k_ hk_ => trivial)) (below_size (by repeat (first | (with_reducible first | exact HB.out | apply below_alloc | apply pw_below_drewN | apply below_drew1) | exact HB.out)))); have n1_ := Aside0.mk (below_step (by repeat (first | (with_reducible first | exact HB.out | apply below_alloc | apply pw_below_drewN | apply below_drew1) | exact HB.out)) hb); clear HB; have HO212 := n0_; have HB := n1_; clear n0_ n1_; (try clear hb); (try clear hb2); (try clear hk); (try clear hi); (try clear ho0)) | ((with_reducible refine gate_dst (N := 4) rfl ?_); (try (refine gate_guard (by rfl) ?_; dsimp only)); refine box_event ?hg (N := 4) ?hd (cs := #[.int .i64 0, .int .i64 0, .int .i64 0]) (t := 26) ?hr ?_; (case hd => rfl); (case hg => rfl); (case hr => first | (go_simp; done) | (go_simp; rfl)); intro gb216 hg w26 hbox hb; have n0_ := Aside0.mk (Kd.V_below (Kd.V_elderB (by (with_reducible repeat (first | apply Kd.V_alloc | apply Kd.V_drewN | apply Kd.V_drew)); exact HO212.out) gb216 (Nat.le_of_eq hg.symm)) hb); have n1_ := Aside0.mk (below_step (by repeat (first | (with_reducible first | exact HB.out | apply below_alloc | apply pw_below_drewN | apply below_drew1) | exact HB.out)) hb); have n2_ := Aside0.mk (hbox); have n3_ := Aside0.mk ((by rw [hg]; exact (below_size (by repeat (first | (with_reducible first | exact HB.out | apply below_alloc | apply pw_below_drewN | apply below_drew1) | exact HB.out))) : w.heap.size ≤ gb216)); have n4_ := Aside0.mk ((by rw [hg]; exact (below_size (by repeat (first | (with_reducible first | exact HB.out | apply below_alloc | apply pw_below_drewN | apply below_drew1) | exact HB.out))) : w.heap.size ≤ gb216)); clear HO212; clear HB; have HO212 := n0_; have HB := n1_; have BK216 := n2_; have GW216 := n3_; have GE216 := n4_; clear n0_ n1_ n2_ n3_ n4_; clear hb hbox hg; have hcz27_0 : w26.cell? ⟨gb216, 0, none⟩ = some (.int .i64 0) := (blk_cell BK216.out 0).trans rfl; have hcz27_1 : w26.cell? ⟨gb216, 1, none⟩ = some (.int .i64 0) := (blk_cell BK216.out 1).trans rfl; have hcz27_2 : w26.cell? ⟨gb216, 2, none⟩ = some (.int .i64 0) := (blk_cell BK216.out 2).trans rfl; have hfz27_0 := blk_frozen BK216.out 0; have hfz27_1 := blk_frozen BK216.out 1; have hfz27_2 := blk_frozen BK216.out 2) | ((with_reducible refine gate_callee (f := 9) rfl ?_); refine goesL_ (some 28) rfl rfl Tryd.func9 (by kernel_rfl) rfl #[.string a0] rfl (by (try simp only [List.map_toArray, List.map_cons, List.map_nil]); first | done | rfl | (simp only [List.length_drop, List.length_take]; rfl)) ?_; (with_reducible refine (portcullisref15_Lex.calls kj1 a0 t217 t220 t221 t222 _ A9.out).mono ?_); rintro e w28 ⟨v218, rfl, ho0, hb⟩; refine ⟨_, rfl, ?_⟩; have n0_ := Aside0.mk (Kd.V_elder' (by (with_reducible repeat (first | apply Kd.V_alloc | apply Kd.V_drewN | apply Kd.V_drew)); exact (Kd.V_mono (Kd.V_far (p := ⟨gb216, 2, none⟩) (Kd.V_far (p := ⟨gb216, 1, none⟩) (Kd.V_far (p := ⟨gb216, 0, none⟩) (Kd.V_mono HO212.out (fun k_ hk => (⟨hk, hk.2⟩ : _ ∧ k_ ≠ gb216))) (fun _ hk => hk.2) (.int .i64 t213)) (fun _ hk => hk.2) (.int .i64 t214)) (fun _ hk => hk.2) (.int .i64 t215)) (fun _ h_ => h_.1))) (Kd.R_base ho0) hb); have n1_ := Aside0.mk (Kd.R_lower ho0 (below_size (by repeat (first | (with_reducible first | exact HB.out | apply below_alloc | apply pw_below_drewN | apply below_drew1 | refine below_set ?_ GE216.out) | exact HB.out)))); have n2_ := Aside0.mk (blk_below (g := gb216) (o := .cells #[.int .i64 t213, .int .i64 t214, .int .i64 t215] 26 (0, 0)) (by (with_reducible repeat (first | refine blk_drewN ?_ _ | refine blk_drew ?_ | refine blk_alloc ?_ _)); refine blk_put (cs := #[.int .i64 t213, .int .i64 t214, .int .i64 0]) ?_ 2 _ rfl; (with_reducible repeat (first | refine blk_drewN ?_ _ | refine blk_drew ?_ | refine blk_alloc ?_ _)); refine blk_put (cs := #[.int .i64 t213, .int .i64 0, .int .i64 0]) ?_ 1 _ rfl; (with_reducible repeat (first | refine blk_drewN ?_ _ | refine blk_drew ?_ | refine blk_alloc ?_ _)); refine blk_put (cs := #[.int .i64 0, .int .i64 0, .int .i64 0]) ?_ 0 _ rfl; (with_reducible repeat (first | refine blk_drewN ?_ _ | refine blk_drew ?_ | refine blk_alloc ?_ _)); exact BK216.out) hb); have n3_ := Aside0.mk (below_step (by repeat (first | (with_reducible first | exact HB.out | apply below_alloc | apply pw_below_drewN | apply below_drew1 | refine below_set ?_ GE216.out) | exact HB.out)) hb); clear HO212; clear BK216; clear HB; have HO212 := n0_; have HO219 := n1_; have BK216 := n2_; have HB := n3_; clear n0_ n1_ n2_ n3_; (try clear hb); (try clear hb2); (try clear hk); (try clear hi); (try clear ho0)) | ((with_reducible refine gate_dst (N := 6) rfl ?_); (try (refine gate_guard (by rfl) ?_; dsimp only)); refine box_event ?hg (N := 6) ?hd (cs := #[.int .i64 0, .int .i64 0, .int .i64 0]) (t := 26) ?hr ?_; (case hd => rfl); (case hg => rfl); (case hr => first | (go_simp; done) | (go_simp; rfl)); intro gb223 hg w29 hbox hb; have n0_ := Aside0.mk (Kd.V_below (Kd.V_elderB (by (with_reducible repeat (first | apply Kd.V_alloc | apply Kd.V_drewN | apply Kd.V_drew)); exact HO212.out) gb223 (Nat.le_of_eq hg.symm)) hb); have n1_ := Aside0.mk (Kd.R_below (by (with_reducible repeat (first | apply Kd.R_alloc | apply Kd.R_drewN | apply Kd.R_drew)); exact HO219.out) hb); have n2_ := Aside0.mk (blk_below (g := gb216) (o := .cells #[.int .i64 t213, .int .i64 t214, .int .i64 t215] 26 (0, 0)) (by (with_reducible repeat (first | refine blk_drewN ?_ _ | refine blk_drew ?_ | refine blk_alloc ?_ _)); exact BK216.out) hb); have n3_ := Aside0.mk (below_step (by repeat (first | (with_reducible first | exact HB.out | apply below_alloc | apply pw_below_drewN | apply below_drew1 | refine below_set ?_ GE216.out) | exact HB.out)) hb); have n4_ := Aside0.mk (hbox); have n5_ := Aside0.mk ((by rw [hg]; exact (below_size (by repeat (first | (with_reducible first | exact HB.out | apply below_alloc | apply pw_below_drewN | apply below_drew1 | refine below_set ?_ GE216.out) | exact HB.out))) : w.heap.size ≤ gb223)); have n6_ := Aside0.mk ((by rw [hg]; exact (below_size (by repeat (first | (with_reducible first | exact HB.out | apply below_alloc | apply pw_below_drewN | apply below_drew1 | refine below_set ?_ GE216.out) | exact HB.out))) : w.heap.size ≤ gb223)); have n7_ := Aside0.mk ((by rw [hg]; exact Nat.ne_of_lt (blk_lt (g := gb216) (o := .cells #[.int .i64 t213, .int .i64 t214, .int .i64 t215] 26 (0, 0)) (by (with_reducible repeat (first | refine blk_drewN ?_ _ | refine blk_drew ?_ | refine blk_alloc ?_ _)); exact BK216.out)) : gb216 ≠ gb223)); have n8_ := Aside0.mk ((by rw [hg]; exact Nat.ne_of_gt (blk_lt (g := gb216) (o := .cells #[.int .i64 t213, .int .i64 t214, .int .i64 t215] 26 (0, 0)) (by (with_reducible repeat (first | refine blk_drewN ?_ _ | refine blk_drew ?_ | refine blk_alloc ?_ _)); exact BK216.out)) : gb223 ≠ gb216)); clear HO212; clear HO219; clear BK216; clear HB; have HO212 := n0_; have HO219 := n1_; have BK216 := n2_; have HB := n3_; have BK223 := n4_; have GW223 := n5_; have GE223 := n6_; have NB216_223 := n7_; have NB223_216 := n8_; clear n0_ n1_ n2_ n3_ n4_ n5_ n6_ n7_ n8_; clear hb hbox hg; have hnb30 := NB223_216.out; have hnc30 := NB216_223.out; have hcz31_0 : w29.cell? ⟨gb223, 0, none⟩ = some (.int .i64 0) := (blk_cell BK223.out 0).trans rfl; have hcz31_1 : w29.cell? ⟨gb223, 1, none⟩ = some (.int .i64 0) := (blk_cell BK223.out 1).trans rfl; have hcz31_2 : w29.cell? ⟨gb223, 2, none⟩ = some (.int .i64 0) := (blk_cell BK223.out 2).trans rfl; have hfz31_0 := blk_frozen BK223.out 0; have hfz31_1 := blk_frozen BK223.out 1; have hfz31_2 := blk_frozen BK223.out 2; have hcz32_0 : w29.cell? ⟨gb216, 0, none⟩ = some (.int .i64 t213) := (blk_cell BK216.out 0).trans rfl; have hcz32_1 : w29.cell? ⟨gb216, 1, none⟩ = some (.int .i64 t214) := (blk_cell BK216.out 1).trans rfl; have hcz32_2 : w29.cell? ⟨gb216, 2, none⟩ = some (.int .i64 t215) := (blk_cell BK216.out 2).trans rfl; have hfz32_0 := blk_frozen BK216.out 0; have hfz32_1 := blk_frozen BK216.out 1; have hfz32_2 := blk_frozen BK216.out 2; obtain ⟨Ao33, co33, eo33⟩ := Kd.V_slice HO212.out; subst eo33; obtain ⟨Ao34, co34, eo34⟩ := Kd.R_slice HO219.out; subst eo34) | (go_at_call 10; (with_reducible refine (portcullisref15_Same.calls kj1 _ _ t210 _ _ t217 false false _ ?side1 ?side2 ?side3 ?side4 A11.out).mono ?_); (case side1 => refine (Kd.V_reads' (e := 36) (base := w.heap.size) (ok := fun k_ => (((True ∧ k_ ≠ gb216) ∧ some k_ ≠ (.slice Ao34 t217.length co34 : Value).ownBlock) ∧ k_ ≠ gb223)) (n := t210.length) (c := co33) ?_).2.2; exact (by (with_reducible repeat (first | apply Kd.V_alloc | apply Kd.V_drewN | apply Kd.V_drew)); exact (Kd.V_mono (Kd.V_far (p := ⟨gb223, 2, none⟩) (Kd.V_far (p := ⟨gb223, 1, none⟩) (Kd.V_far (p := ⟨gb223, 0, none⟩) (Kd.V_mono HO212.out (fun k_ hk => (⟨hk, hk.2⟩ : _ ∧ k_ ≠ gb223))) (fun _ hk => hk.2) (.int .i64 t220)) (fun _ hk => hk.2) (.int .i64 t221)) (fun _ hk => hk.2) (.int .i64 t222)) (fun _ h_ => h_.1)))); (case side2 => exact (Kd.V_reads' HO212.out).2.1); (case side3 => refine (Kd.R_reads' (e := 36) (base := w.heap.size) (ok := fun k_ => True) (n := t217.length) (c := co34) ?_).2.2; exact (by (with_reducible repeat (first | apply Kd.R_alloc | apply Kd.R_drewN | apply Kd.R_drew)); exact (Kd.R_mono (Kd.R_far (p := ⟨gb223, 2, none⟩) (Kd.R_far (p := ⟨gb223, 1, none⟩) (Kd.R_far (p := ⟨gb223, 0, none⟩) (Kd.R_types HO219.out BK223.out (by decide)) (fun _ hk => hk.2) (.int .i64 t220)) (fun _ hk => hk.2) (.int .i64 t221)) (fun _ hk => hk.2) (.int .i64 t222)) (fun _ h_ => h_.1)))); (case side4 => exact (Kd.R_reads' HO219.out).2.1); rintro e w' ⟨rfl, ⟨nd, rfl⟩⟩))
            go_ret
            exact ⟨by first | rfl | (simp [errW_none, errW_some] <;> rfl) | (simp [*, errW_none, errW_some] <;> rfl), by repeat (first | (with_reducible first | exact HB.out | apply below_alloc | apply pw_below_drewN | apply below_drew1 | refine below_set ?_ GE216.out | refine below_set ?_ GE223.out) | exact HB.out)⟩
        · rw [if_neg c10] at H
          have c10b0 : (t213 == t220 && (t214 == t221 && (t215 == t222))) = false := by simpa using c10
          (try (have c10b1 : decide (t213 = t220 && (t214 == t221 && (t215 == t222))) = false := by simpa using c10))
          (try (have c10b2 : (t213 == t220 && (t214 == t221 && (t215 == t222))) = false := by simpa using c10))
          (try (have c10b3 : ¬ (t213 = t220 && (t214 == t221 && (t215 == t222))) := by simpa using c10))
          clear c10
          obtain rfl := Option.some.inj H
          go_wp2_with (first | ((with_reducible refine gate_callee (f := 8) rfl ?_); refine goesL_ (some 23) rfl rfl Tryd.func8 (by kernel_rfl) rfl #[.string a0] rfl (by (try simp only [List.map_toArray, List.map_cons, List.map_nil]); first | done | rfl | (simp only [List.length_drop, List.length_take]; rfl)) ?_; (with_reducible refine (lex_Lex.calls a0 t210 t213 t214 t215 _ (Glob.below HG.out (by repeat (first | (with_reducible first | exact HB.out | apply below_alloc | apply pw_below_drewN | apply below_drew1) | exact HB.out))) A8.out).mono ?_); rintro e w35 ⟨v211, rfl, ho0, hb⟩; refine ⟨_, rfl, ?_⟩; have n0_ := Aside0.mk (Kd.V_lower (Kd.V_mono (ok' := fun k_ => True) ho0 (fun k_ hk_ => trivial)) (below_size (by repeat (first | (with_reducible first | exact HB.out | apply below_alloc | apply pw_below_drewN | apply below_drew1) | exact HB.out)))); have n1_ := Aside0.mk (below_step (by repeat (first | (with_reducible first | exact HB.out | apply below_alloc | apply pw_below_drewN | apply below_drew1) | exact HB.out)) hb); clear HB; have HO212 := n0_; have HB := n1_; clear n0_ n1_; (try clear hb); (try clear hb2); (try clear hk); (try clear hi); (try clear ho0)) | ((with_reducible refine gate_dst (N := 4) rfl ?_); (try (refine gate_guard (by rfl) ?_; dsimp only)); refine box_event ?hg (N := 4) ?hd (cs := #[.int .i64 0, .int .i64 0, .int .i64 0]) (t := 26) ?hr ?_; (case hd => rfl); (case hg => rfl); (case hr => first | (go_simp; done) | (go_simp; rfl)); intro gb216 hg w36 hbox hb; have n0_ := Aside0.mk (Kd.V_below (Kd.V_elderB (by (with_reducible repeat (first | apply Kd.V_alloc | apply Kd.V_drewN | apply Kd.V_drew)); exact HO212.out) gb216 (Nat.le_of_eq hg.symm)) hb); have n1_ := Aside0.mk (below_step (by repeat (first | (with_reducible first | exact HB.out | apply below_alloc | apply pw_below_drewN | apply below_drew1) | exact HB.out)) hb); have n2_ := Aside0.mk (hbox); have n3_ := Aside0.mk ((by rw [hg]; exact (below_size (by repeat (first | (with_reducible first | exact HB.out | apply below_alloc | apply pw_below_drewN | apply below_drew1) | exact HB.out))) : w.heap.size ≤ gb216)); have n4_ := Aside0.mk ((by rw [hg]; exact (below_size (by repeat (first | (with_reducible first | exact HB.out | apply below_alloc | apply pw_below_drewN | apply below_drew1) | exact HB.out))) : w.heap.size ≤ gb216)); clear HO212; clear HB; have HO212 := n0_; have HB := n1_; have BK216 := n2_; have GW216 := n3_; have GE216 := n4_; clear n0_ n1_ n2_ n3_ n4_; clear hb hbox hg; have hcz37_0 : w36.cell? ⟨gb216, 0, none⟩ = some (.int .i64 0) := (blk_cell BK216.out 0).trans rfl; have hcz37_1 : w36.cell? ⟨gb216, 1, none⟩ = some (.int .i64 0) := (blk_cell BK216.out 1).trans rfl; have hcz37_2 : w36.cell? ⟨gb216, 2, none⟩ = some (.int .i64 0) := (blk_cell BK216.out 2).trans rfl; have hfz37_0 := blk_frozen BK216.out 0; have hfz37_1 := blk_frozen BK216.out 1; have hfz37_2 := blk_frozen BK216.out 2) | ((with_reducible refine gate_callee (f := 9) rfl ?_); refine goesL_ (some 28) rfl rfl Tryd.func9 (by kernel_rfl) rfl #[.string a0] rfl (by (try simp only [List.map_toArray, List.map_cons, List.map_nil]); first | done | rfl | (simp only [List.length_drop, List.length_take]; rfl)) ?_; (with_reducible refine (portcullisref15_Lex.calls kj1 a0 t217 t220 t221 t222 _ A9.out).mono ?_); rintro e w38 ⟨v218, rfl, ho0, hb⟩; refine ⟨_, rfl, ?_⟩; have n0_ := Aside0.mk (Kd.V_elder' (by (with_reducible repeat (first | apply Kd.V_alloc | apply Kd.V_drewN | apply Kd.V_drew)); exact (Kd.V_mono (Kd.V_far (p := ⟨gb216, 2, none⟩) (Kd.V_far (p := ⟨gb216, 1, none⟩) (Kd.V_far (p := ⟨gb216, 0, none⟩) (Kd.V_mono HO212.out (fun k_ hk => (⟨hk, hk.2⟩ : _ ∧ k_ ≠ gb216))) (fun _ hk => hk.2) (.int .i64 t213)) (fun _ hk => hk.2) (.int .i64 t214)) (fun _ hk => hk.2) (.int .i64 t215)) (fun _ h_ => h_.1))) (Kd.R_base ho0) hb); have n1_ := Aside0.mk (Kd.R_lower ho0 (below_size (by repeat (first | (with_reducible first | exact HB.out | apply below_alloc | apply pw_below_drewN | apply below_drew1 | refine below_set ?_ GE216.out) | exact HB.out)))); have n2_ := Aside0.mk (blk_below (g := gb216) (o := .cells #[.int .i64 t213, .int .i64 t214, .int .i64 t215] 26 (0, 0)) (by (with_reducible repeat (first | refine blk_drewN ?_ _ | refine blk_drew ?_ | refine blk_alloc ?_ _)); refine blk_put (cs := #[.int .i64 t213, .int .i64 t214, .int .i64 0]) ?_ 2 _ rfl; (with_reducible repeat (first | refine blk_drewN ?_ _ | refine blk_drew ?_ | refine blk_alloc ?_ _)); refine blk_put (cs := #[.int .i64 t213, .int .i64 0, .int .i64 0]) ?_ 1 _ rfl; (with_reducible repeat (first | refine blk_drewN ?_ _ | refine blk_drew ?_ | refine blk_alloc ?_ _)); refine blk_put (cs := #[.int .i64 0, .int .i64 0, .int .i64 0]) ?_ 0 _ rfl; (with_reducible repeat (first | refine blk_drewN ?_ _ | refine blk_drew ?_ | refine blk_alloc ?_ _)); exact BK216.out) hb); have n3_ := Aside0.mk (below_step (by repeat (first | (with_reducible first | exact HB.out | apply below_alloc | apply pw_below_drewN | apply below_drew1 | refine below_set ?_ GE216.out) | exact HB.out)) hb); clear HO212; clear BK216; clear HB; have HO212 := n0_; have HO219 := n1_; have BK216 := n2_; have HB := n3_; clear n0_ n1_ n2_ n3_; (try clear hb); (try clear hb2); (try clear hk); (try clear hi); (try clear ho0)) | ((with_reducible refine gate_dst (N := 6) rfl ?_); (try (refine gate_guard (by rfl) ?_; dsimp only)); refine box_event ?hg (N := 6) ?hd (cs := #[.int .i64 0, .int .i64 0, .int .i64 0]) (t := 26) ?hr ?_; (case hd => rfl); (case hg => rfl); (case hr => first | (go_simp; done) | (go_simp; rfl)); intro gb223 hg w39 hbox hb; have n0_ := Aside0.mk (Kd.V_below (Kd.V_elderB (by (with_reducible repeat (first | apply Kd.V_alloc | apply Kd.V_drewN | apply Kd.V_drew)); exact HO212.out) gb223 (Nat.le_of_eq hg.symm)) hb); have n1_ := Aside0.mk (Kd.R_below (by (with_reducible repeat (first | apply Kd.R_alloc | apply Kd.R_drewN | apply Kd.R_drew)); exact HO219.out) hb); have n2_ := Aside0.mk (blk_below (g := gb216) (o := .cells #[.int .i64 t213, .int .i64 t214, .int .i64 t215] 26 (0, 0)) (by (with_reducible repeat (first | refine blk_drewN ?_ _ | refine blk_drew ?_ | refine blk_alloc ?_ _)); exact BK216.out) hb); have n3_ := Aside0.mk (below_step (by repeat (first | (with_reducible first | exact HB.out | apply below_alloc | apply pw_below_drewN | apply below_drew1 | refine below_set ?_ GE216.out) | exact HB.out)) hb); have n4_ := Aside0.mk (hbox); have n5_ := Aside0.mk ((by rw [hg]; exact (below_size (by repeat (first | (with_reducible first | exact HB.out | apply below_alloc | apply pw_below_drewN | apply below_drew1 | refine below_set ?_ GE216.out) | exact HB.out))) : w.heap.size ≤ gb223)); have n6_ := Aside0.mk ((by rw [hg]; exact (below_size (by repeat (first | (with_reducible first | exact HB.out | apply below_alloc | apply pw_below_drewN | apply below_drew1 | refine below_set ?_ GE216.out) | exact HB.out))) : w.heap.size ≤ gb223)); have n7_ := Aside0.mk ((by rw [hg]; exact Nat.ne_of_lt (blk_lt (g := gb216) (o := .cells #[.int .i64 t213, .int .i64 t214, .int .i64 t215] 26 (0, 0)) (by (with_reducible repeat (first | refine blk_drewN ?_ _ | refine blk_drew ?_ | refine blk_alloc ?_ _)); exact BK216.out)) : gb216 ≠ gb223)); have n8_ := Aside0.mk ((by rw [hg]; exact Nat.ne_of_gt (blk_lt (g := gb216) (o := .cells #[.int .i64 t213, .int .i64 t214, .int .i64 t215] 26 (0, 0)) (by (with_reducible repeat (first | refine blk_drewN ?_ _ | refine blk_drew ?_ | refine blk_alloc ?_ _)); exact BK216.out)) : gb223 ≠ gb216)); clear HO212; clear HO219; clear BK216; clear HB; have HO212 := n0_; have HO219 := n1_; have BK216 := n2_; have HB := n3_; have BK223 := n4_; have GW223 := n5_; have GE223 := n6_; have NB216_223 := n7_; have NB223_216 := n8_; clear n0_ n1_ n2_ n3_ n4_ n5_ n6_ n7_ n8_; clear hb hbox hg; have hnb40 := NB223_216.out; have hnc40 := NB216_223.out; have hcz41_0 : w39.cell? ⟨gb223, 0, none⟩ = some (.int .i64 0) := (blk_cell BK223.out 0).trans rfl; have hcz41_1 : w39.cell? ⟨gb223, 1, none⟩ = some (.int .i64 0) := (blk_cell BK223.out 1).trans rfl; have hcz41_2 : w39.cell? ⟨gb223, 2, none⟩ = some (.int .i64 0) := (blk_cell BK223.out 2).trans rfl; have hfz41_0 := blk_frozen BK223.out 0; have hfz41_1 := blk_frozen BK223.out 1; have hfz41_2 := blk_frozen BK223.out 2; have hcz42_0 : w39.cell? ⟨gb216, 0, none⟩ = some (.int .i64 t213) := (blk_cell BK216.out 0).trans rfl; have hcz42_1 : w39.cell? ⟨gb216, 1, none⟩ = some (.int .i64 t214) := (blk_cell BK216.out 1).trans rfl; have hcz42_2 : w39.cell? ⟨gb216, 2, none⟩ = some (.int .i64 t215) := (blk_cell BK216.out 2).trans rfl; have hfz42_0 := blk_frozen BK216.out 0; have hfz42_1 := blk_frozen BK216.out 1; have hfz42_2 := blk_frozen BK216.out 2))
          go_ret
          exact ⟨by first | rfl | (simp [errW_none, errW_some] <;> rfl) | (simp [*, errW_none, errW_some] <;> rfl), by repeat (first | (with_reducible first | exact HB.out | apply below_alloc | apply pw_below_drewN | apply below_drew1 | refine below_set ?_ GE216.out | refine below_set ?_ GE223.out) | exact HB.out)⟩
/-- THE ONE PURE STATEMENT of portcullislaw15_LexReads: yours. -/
def portcullislaw15_LexReads.Pure : Prop := ∀ (a0 : ByteArray), a0.size ≤ 140737488351232 → ∃ k, portcullislaw15_LexReads.f k a0 = some true
theorem portcullislaw15_LexReads.walk (P : portcullislaw15_LexReads.Pure) (a0 : ByteArray) (w : World) (hG : Glob w) (w0 : a0.size ≤ 140737488351232) :
    Calls Tryd.prog 3 #[.string a0] w fun e w' => e = .returned (.bool true) ∧ Below w.heap.size w w' := by
  obtain ⟨k, h⟩ := P a0 w0
  refine (portcullislaw15_LexReads.calls k a0 true w hG h).mono ?_
  rintro e w' ⟨rfl, hd⟩
  exact ⟨rfl, hd⟩
/-! ### portcullislaw15_long: function 11 -/
def portcullislaw15_long.l0 : Nat → List (S36) → Int → Int → Option (Bool)
  | 0, _, _, _ => none
  | k + 1, x0, x3, x4 => if x4 < (x0.length : Int) then (if x3 ≤ 8192 then (if 0 ≤ x4 then (portcullislaw15_long.l0 k x0 (wrap64 ((wrap64 (x3 + 4)) + (((rd_T36 x0 x4).f1).size : Int))) (wrap64 (x4 + 1))) else (none)) else (some (decide (x3 > 8192)))) else (some (decide (x3 > 8192)))
def portcullislaw15_long.f (k : Nat) (l0 : List (S36)) : Option (Bool) := portcullislaw15_long.l0 k l0 0 0
theorem portcullislaw15_long.mono_l : ∀ k, (∀ y0 y1 y2, LeO (portcullislaw15_long.l0 k y0 y1 y2) (portcullislaw15_long.l0 (k + 1) y0 y1 y2))
  | 0 => fun _ _ _ r h => by simp [portcullislaw15_long.l0] at h
  | k + 1 => by
    have ih0 := portcullislaw15_long.mono_l k
    · intro y0 y1 y2
      unfold portcullislaw15_long.l0
      repeat' first
      | (with_reducible exact ih0 _ _ _)
      | (with_reducible exact LeO.refl _)
      | (with_reducible exact LeO.none _)
      | (with_reducible refine LeO.ite ?_ ?_)
      | (with_reducible refine LeO.bind ?_ (fun _ => ?_))
      | exact ih0 _ _ _
      | exact LeO.none _
      | refine LeO.ite ?_ ?_
      | refine LeO.bind ?_ (fun _ => ?_)
theorem portcullislaw15_long.mono : ∀ a0 k, LeO (portcullislaw15_long.f k a0) (portcullislaw15_long.f (k + 1) a0) := by
  intro a0 k
  have ih0 := portcullislaw15_long.mono_l k
  unfold portcullislaw15_long.f
  repeat' first
      | (with_reducible exact ih0 _ _ _)
      | (with_reducible exact LeO.refl _)
      | (with_reducible exact LeO.none _)
      | (with_reducible refine LeO.ite ?_ ?_)
      | (with_reducible refine LeO.bind ?_ (fun _ => ?_))
      | exact ih0 _ _ _
      | exact LeO.none _
      | refine LeO.ite ?_ ?_
      | refine LeO.bind ?_ (fun _ => ?_)
set_option maxHeartbeats 8000000 in
set_option maxRecDepth 100000 in
theorem portcullislaw15_long.calls (k : Nat) (A0 : Option Addr) (c0 : Nat) (l0 : List (S36)) (r : Bool) (w : World) (hr0 : Kd.C k36 w A0 l0.length l0) (hc0 : l0.length ≤ c0) (h : portcullislaw15_long.f k l0 = some r) :
    Calls Tryd.prog 11 #[.slice A0 l0.length c0] w fun e w' => e = .returned (.bool r) ∧ Drawn0 w w' := by
  have HR0 := Aside0.mk hr0
  have HC0 := Aside0.mk hc0
  clear hr0 hc0
  have H : (portcullislaw15_long.l0 k l0 0 0) = some r := h
  clear h
  have H' := Aside0.mk H
  clear H
  go_enter Tryd.func11, Tryd.ntmps11
  go_wp2
  go_loopg [3, 4] k (fun kq v3 v4 w' => ∃ (x3_1 : Int) (x4_1 : Int), v3 = .int .i64 x3_1 ∧ v4 = .int .i64 x4_1 ∧ Aside0 (portcullislaw15_long.l0 kq l0 x3_1 x4_1 = some r) ∧ Aside0 (kq ≤ k) ∧ Drawn0 w w')
  case atStart => exact ⟨(0), (0), (by first | rfl | (simp; done) | (simp [*]; done)), (by first | rfl | (simp; done) | (simp [*]; done)), H', ⟨Nat.le_refl _⟩, by repeat (first | exact Drawn0.refl _ | apply Drawn0.step)⟩
  case round =>
    clear H'
    try clear c1
    obtain ⟨x3_1, x4_1, rfl, rfl, HA, HK1, ⟨m1, rfl⟩⟩ := hrel
    cases gk with
    | zero => exact absurd HA.out (by simp [portcullislaw15_long.l0])
    | succ k1 =>
      have H := HA.out
      clear HA
      simp only [portcullislaw15_long.l0] at H
      by_cases c2 : x4_1 < (l0.length : Int)
      · rw [if_pos c2] at H
        have c2b0 : decide (x4_1 < (l0.length : Int)) = true := decide_eq_true c2
        clear c2
        by_cases c3 : x3_1 ≤ 8192
        · rw [if_pos c3] at H
          have c3b0 : decide (x3_1 ≤ 8192) = true := decide_eq_true c3
          clear c3
          by_cases c4 : 0 ≤ x4_1
          · rw [if_pos c4] at H
            have c4b0 : decide (0 ≤ x4_1) = true := decide_eq_true c4
            clear c4
            have H' := Aside0.mk H
            clear H
            have p226 : 0 ≤ (x4_1 : Int) := of_decide_eq_true (by first | (with_reducible assumption) | assumption)
            have q226 : x4_1 < (l0.length : Int) := of_decide_eq_true (by first | (with_reducible assumption) | assumption)
            obtain ⟨ad226, e226, hx226_0, hx226_1, hx226_2, hx226_3⟩ := at_T36 HR0.out x4_1 p226 q226
            cases e226
            replace p226 := eq_true p226
            replace q226 := eq_true q226
            go_wp2
            go_roundg k1
            case measure => have := HK1.out; omega
            case rel => exact ⟨(wrap64 ((wrap64 (x3_1 + 4)) + (((rd_T36 l0 x4_1).f1).size : Int))), (wrap64 (x4_1 + 1)), (by first | rfl | (simp; done) | (simp [*]; done)), (by first | rfl | (simp; done) | (simp [*]; done)), H', ⟨by have := HK1.out; omega⟩, by repeat (first | exact Drawn0.refl _ | apply Drawn0.step)⟩
          · rw [if_neg c4] at H
            exact absurd H (by simp)
        · rw [if_neg c3] at H
          have c3b0 : decide (x3_1 ≤ 8192) = false := decide_eq_false c3
          clear c3
          obtain rfl := Option.some.inj H
          go_wp2
          go_ret
          exact ⟨by first | rfl | (simp; done) | (simp [*]; done), by repeat (first | exact Drawn0.refl _ | apply Drawn0.step)⟩
      · rw [if_neg c2] at H
        have c2b0 : decide (x4_1 < (l0.length : Int)) = false := decide_eq_false c2
        clear c2
        obtain rfl := Option.some.inj H
        go_wp2
        go_ret
        exact ⟨by first | rfl | (simp; done) | (simp [*]; done), by repeat (first | exact Drawn0.refl _ | apply Drawn0.step)⟩
end Go.Proofs.YtfndanccnjggfaaDoor.Q
/- What is proved: the document's way to read UTF-8 is the machine's, and so are its looks at a line. -/
namespace Go.Proofs.YtfndanccnjggfaaDoor.Pure
open Go.RowKit Go.Proofs.YtfndanccnjggfaaDoor.Q Go.Proofs.YtfndanccnjggfaaDoorW.PrintWords Go.Proofs.YtfndanccnjggfaaDoorW.PrintLast Go.Proofs.YtfndanccnjggfaaDoorW.PrintMore
set_option linter.unusedVariables false
set_option linter.unusedSimpArgs false
/-- From some number of rounds on, v. -/
def Ev {α : Type} (g : Nat → Option α) (v : α) : Prop := ∃ k0, ∀ k, k0 ≤ k → g k = some v
theorem Ev.const {α : Type} (v : α) : Ev (fun _ => some v) v := ⟨0, fun _ _ => rfl⟩
theorem Ev.of_eq {α : Type} {g h : Nat → Option α} {v : α} (e : ∀ k, g k = h k) (H : Ev h v) : Ev g v := by
  obtain ⟨k0, hk⟩ := H
  exact ⟨k0, fun k hle => (e k).trans (hk k hle)⟩
theorem Ev.of_eq1 {α : Type} {g h : Nat → Option α} {v : α} (e : ∀ k, g (k + 1) = h k) (H : Ev h v) : Ev g v := by
  obtain ⟨k0, hk⟩ := H
  refine ⟨k0 + 1, fun k hle => ?_⟩
  obtain ⟨j, rfl⟩ : ∃ j, k = j + 1 := ⟨k - 1, by omega⟩
  exact (e j).trans (hk j (by omega))
theorem Ev.bind {α β : Type} {g : Nat → Option α} {f : Nat → α → Option β} {v : α} {u : β} (H : Ev g v) (K : Ev (fun k => f k v) u) : Ev (fun k => (g k).bind (f k)) u := by
  obtain ⟨k0, hk⟩ := H
  obtain ⟨k1, hk1⟩ := K
  refine ⟨max k0 k1, fun k hle => ?_⟩
  simp only [hk k (by omega), Option.bind_some]
  exact hk1 k (by omega)
theorem Ev.get {α : Type} {g : Nat → Option α} {v : α} (H : Ev g v) : ∃ k, g k = some v := ⟨H.choose, H.choose_spec _ (Nat.le_refl _)⟩
theorem w64 {n : Int} (h0 : -9223372036854775808 ≤ n) (h1 : n ≤ 9223372036854775807) : wrap64 n = n := by unfold wrap64; omega
theorem w32 {n : Int} (h0 : -2147483648 ≤ n) (h1 : n ≤ 2147483647) : wrap32 n = n := by unfold wrap32; omega
theorem rScal (n : Int) : portcullisref01_Scalar.f n = some (Go.Lib.validRune n) := by
  unfold portcullisref01_Scalar.f Go.Lib.validRune
  by_cases a : n ≥ 0
  · rw [if_pos a]
    by_cases b : n ≤ 1114111
    · rw [if_pos b]
      by_cases c : n < 55296
      · rw [if_pos c]; congr 1; symm; rw [decide_eq_true_eq]; omega
      · rw [if_neg c]; congr 1; rw [decide_eq_decide]; omega
    · rw [if_neg b]; congr 1; symm; rw [decide_eq_false_iff_not]; omega
  · rw [if_neg a]; congr 1; symm; rw [decide_eq_false_iff_not]; omega
theorem valid_cases {n : Int} (h : Go.Lib.validRune n = true) : (0 ≤ n ∧ n ≤ 127) ∨ (128 ≤ n ∧ n ≤ 2047) ∨ ((2048 ≤ n ∧ n < 55296) ∨ (57343 < n ∧ n ≤ 65535)) ∨ (65536 ≤ n ∧ n ≤ 1114111) := by
  unfold Go.Lib.validRune at h
  rw [decide_eq_true_eq] at h
  omega
theorem rBytes (n : Int) (h : Go.Lib.validRune n = true) : portcullisref01_Bytes.f n = some (strOfNums (Go.Lib.encodeRuneZ n)) := by
  unfold portcullisref01_Bytes.f
  simp only [List.length_nil, Option.bind_some, List.nil_append, List.length_cons, if_true, show ((0 : Nat) < 140737488355328) = True from by simp, show (0 + (0 + 1 + 1) < 140737488355328) = True from by simp, show (0 + (0 + 1 + 1 + 1) < 140737488355328) = True from by simp, show (0 + (0 + 1 + 1 + 1 + 1) < 140737488355328) = True from by simp]
  rcases valid_cases h with ⟨a, b⟩ | ⟨a, b⟩ | a | ⟨a, b⟩
  · rw [if_pos (by omega), Go.Lib.encodeRuneZ_one a b, Int.emod_eq_of_lt a (by omega)]
  · rw [if_neg (by omega), if_pos (by omega), Go.Lib.encodeRuneZ_two a b]
    simp only [Int.tdiv_eq_ediv_of_nonneg (show 0 ≤ n by omega), Int.tmod_eq_emod_of_nonneg (show 0 ≤ n by omega)]
    simp (disch := omega) only [w32, Int.emod_eq_of_lt]
  · rw [if_neg (by omega), if_neg (by omega), if_pos (by omega), Go.Lib.encodeRuneZ_three a]
    have hd : 0 ≤ n / 64 := by omega
    simp only [Int.tdiv_eq_ediv_of_nonneg (show 0 ≤ n by omega), Int.tmod_eq_emod_of_nonneg (show 0 ≤ n by omega)]
    simp (disch := omega) only [w32, Int.emod_eq_of_lt, Int.tmod_eq_emod_of_nonneg]
  · rw [if_neg (by omega), if_neg (by omega), if_neg (by omega), Go.Lib.encodeRuneZ_four a b]
    simp only [Int.tdiv_eq_ediv_of_nonneg (show 0 ≤ n by omega), Int.tmod_eq_emod_of_nonneg (show 0 ≤ n by omega)]
    simp (disch := omega) only [w32, Int.emod_eq_of_lt, Int.tmod_eq_emod_of_nonneg]
theorem strOfNums_enc (c : Int) : (strOfNums (Go.Lib.encodeRuneZ c)).data.toList = Go.Lib.encodeRune c := by
  simp [strOfNums, Go.Lib.encodeRune]
def valN : List UInt8 → Int
  | [a] => a.toNat
  | [a, b] => ((a.toNat : Int) - 192) * 64 + b.toNat - 128
  | [a, b, c] => ((((a.toNat : Int) - 224) * 64 + b.toNat - 128) * 64) + c.toNat - 128
  | [a, b, c, d] => (((((a.toNat : Int) - 240) * 64 + b.toNat - 128) * 64) + c.toNat - 128) * 64 + d.toNat - 128
  | _ => 0
theorem rValue (s : ByteArray) (h1 : 1 ≤ s.size) (h4 : s.size ≤ 4) : Ev (fun k => portcullisref01_value.f k s) (valN s.data.toList) := by
  obtain ⟨⟨l⟩⟩ := s
  have hsz : (⟨⟨l⟩⟩ : ByteArray).size = l.length := rfl
  rw [hsz] at h1 h4
  refine ⟨6, fun k hk => ?_⟩
  obtain ⟨j, rfl⟩ : ∃ j, k = j + 6 := ⟨k - 6, by omega⟩
  match l, h1, h4 with
  | [a], _, _ =>
    have ha := a.toNat_lt
    have e0 : bt ⟨#[a]⟩ 0 = (a.toNat : Int) := rfl
    have hs : ((⟨#[a]⟩ : ByteArray).size : Int) = 1 := rfl
    simp only [portcullisref01_value.f, portcullisref01_value.j0, portcullisref01_value.l0, e0, hs, valN]
    simp (disch := omega) [w32, w64]
  | [a, b], _, _ =>
    have ha := a.toNat_lt
    have hb := b.toNat_lt
    have e0 : bt ⟨#[a, b]⟩ 0 = (a.toNat : Int) := rfl
    have e1 : bt ⟨#[a, b]⟩ 1 = (b.toNat : Int) := rfl
    have hs : ((⟨#[a, b]⟩ : ByteArray).size : Int) = 2 := rfl
    have g1 : wrap64 ((1 : Int) + 1) = 2 := w64 (by decide) (by decide)
    simp only [portcullisref01_value.f, portcullisref01_value.j0, portcullisref01_value.l0, e0, e1, hs, g1, valN]
    simp (disch := omega) [w32]
  | [a, b, c], _, _ =>
    have ha := a.toNat_lt
    have hb := b.toNat_lt
    have hc := c.toNat_lt
    have e0 : bt ⟨#[a, b, c]⟩ 0 = (a.toNat : Int) := rfl
    have e1 : bt ⟨#[a, b, c]⟩ 1 = (b.toNat : Int) := rfl
    have e2 : bt ⟨#[a, b, c]⟩ 2 = (c.toNat : Int) := rfl
    have hs : ((⟨#[a, b, c]⟩ : ByteArray).size : Int) = 3 := rfl
    have g1 : wrap64 ((1 : Int) + 1) = 2 := w64 (by decide) (by decide)
    have g2 : wrap64 ((2 : Int) + 1) = 3 := w64 (by decide) (by decide)
    simp only [portcullisref01_value.f, portcullisref01_value.j0, portcullisref01_value.l0, e0, e1, e2, hs, g1, g2, valN]
    simp (disch := omega) [w32]
  | [a, b, c, d], _, _ =>
    have ha := a.toNat_lt
    have hb := b.toNat_lt
    have hc := c.toNat_lt
    have hd := d.toNat_lt
    have e0 : bt ⟨#[a, b, c, d]⟩ 0 = (a.toNat : Int) := rfl
    have e1 : bt ⟨#[a, b, c, d]⟩ 1 = (b.toNat : Int) := rfl
    have e2 : bt ⟨#[a, b, c, d]⟩ 2 = (c.toNat : Int) := rfl
    have e3 : bt ⟨#[a, b, c, d]⟩ 3 = (d.toNat : Int) := rfl
    have hs : ((⟨#[a, b, c, d]⟩ : ByteArray).size : Int) = 4 := rfl
    have g1 : wrap64 ((1 : Int) + 1) = 2 := w64 (by decide) (by decide)
    have g2 : wrap64 ((2 : Int) + 1) = 3 := w64 (by decide) (by decide)
    have g3 : wrap64 ((3 : Int) + 1) = 4 := w64 (by decide) (by decide)
    simp only [portcullisref01_value.f, portcullisref01_value.j0, portcullisref01_value.l0, e0, e1, e2, e3, hs, g1, g2, g3, valN]
    simp (disch := omega) [w32]
theorem u8n (z : Int) (h0 : 0 ≤ z) (h1 : z < 256) : ((z.toNat.toUInt8).toNat : Int) = z := by
  rw [show z.toNat.toUInt8 = UInt8.ofNat z.toNat from rfl, UInt8.toNat_ofNat']
  omega
theorem valN_enc (c : Int) (h : Go.Lib.validRune c = true) : valN (Go.Lib.encodeRune c) = c := by
  unfold Go.Lib.encodeRune
  rcases valid_cases h with ⟨a, b⟩ | ⟨a, b⟩ | a | ⟨a, b⟩
  · rw [Go.Lib.encodeRuneZ_one a b]
    simp only [List.map_cons, List.map_nil, valN]
    exact u8n c a (by omega)
  · rw [Go.Lib.encodeRuneZ_two a b]
    simp only [List.map_cons, List.map_nil, valN]
    rw [u8n _ (by omega) (by omega), u8n _ (by omega) (by omega)]
    omega
  · rw [Go.Lib.encodeRuneZ_three a]
    simp only [List.map_cons, List.map_nil, valN]
    rw [u8n _ (by omega) (by omega), u8n _ (by omega) (by omega), u8n _ (by omega) (by omega)]
    omega
  · rw [Go.Lib.encodeRuneZ_four a b]
    simp only [List.map_cons, List.map_nil, valN]
    rw [u8n _ (by omega) (by omega), u8n _ (by omega) (by omega), u8n _ (by omega) (by omega), u8n _ (by omega) (by omega)]
    omega
/-- What was encoded is decoded, whatever stands behind it. -/
theorem decode_enc (c : Int) (h : Go.Lib.validRune c = true) (t : List UInt8) : Lib.decodeL (Go.Lib.encodeRune c ++ t) = (c.toNat, (Go.Lib.encodeRune c).length) := by
  rw [Lib.decodeL_N]
  unfold Go.Lib.encodeRune
  rcases valid_cases h with ⟨a, b⟩ | ⟨a, b⟩ | a | ⟨a, b⟩
  · rw [Go.Lib.encodeRuneZ_one a b]
    have h0 := u8n c a (by omega)
    simp only [List.map_cons, List.map_nil, List.cons_append, List.nil_append, List.length_cons, List.length_nil, List.getD_cons_zero]
    rw [Lib.decodeN_ascii _ _ _ _ _ (by omega)]
    apply Prod.ext <;> simp only <;> omega
  · rw [Go.Lib.encodeRuneZ_two a b]
    have h0 := u8n (192 + c / 64) (by omega) (by omega)
    have h1 := u8n (128 + c % 64) (by omega) (by omega)
    simp only [List.map_cons, List.map_nil, List.cons_append, List.nil_append, List.length_cons, List.length_nil, List.getD_cons_zero, List.getD_cons_succ]
    generalize (192 + c / 64).toNat.toUInt8.toNat = b0 at *
    generalize (128 + c % 64).toNat.toUInt8.toNat = b1 at *
    generalize (List.getD t 0 0).toNat = b2
    generalize (List.getD t 1 0).toNat = b3
    unfold Lib.decodeN
    rw [if_neg (by omega), if_pos (by omega), if_pos (by omega)]
    apply Prod.ext <;> simp only <;> omega
  · rw [Go.Lib.encodeRuneZ_three a]
    have h0 := u8n (224 + c / 4096) (by omega) (by omega)
    have h1 := u8n (128 + c / 64 % 64) (by omega) (by omega)
    have h2 := u8n (128 + c % 64) (by omega) (by omega)
    simp only [List.map_cons, List.map_nil, List.cons_append, List.nil_append, List.length_cons, List.length_nil, List.getD_cons_zero, List.getD_cons_succ]
    generalize (224 + c / 4096).toNat.toUInt8.toNat = b0 at *
    generalize (128 + c / 64 % 64).toNat.toUInt8.toNat = b1 at *
    generalize (128 + c % 64).toNat.toUInt8.toNat = b2 at *
    generalize (List.getD t 0 0).toNat = b3
    unfold Lib.decodeN
    rw [if_neg (by omega), if_neg (by omega), if_pos (by omega), if_pos (by omega)]
    apply Prod.ext <;> simp only <;> omega
  · rw [Go.Lib.encodeRuneZ_four a b]
    have h0 := u8n (240 + c / 262144) (by omega) (by omega)
    have h1 := u8n (128 + c / 4096 % 64) (by omega) (by omega)
    have h2 := u8n (128 + c / 64 % 64) (by omega) (by omega)
    have h3 := u8n (128 + c % 64) (by omega) (by omega)
    simp only [List.map_cons, List.map_nil, List.cons_append, List.nil_append, List.length_cons, List.length_nil, List.getD_cons_zero, List.getD_cons_succ]
    generalize (240 + c / 262144).toNat.toUInt8.toNat = b0 at *
    generalize (128 + c / 4096 % 64).toNat.toUInt8.toNat = b1 at *
    generalize (128 + c / 64 % 64).toNat.toUInt8.toNat = b2 at *
    generalize (128 + c % 64).toNat.toUInt8.toNat = b3 at *
    unfold Lib.decodeN
    rw [if_neg (by omega), if_neg (by omega), if_neg (by omega), if_pos (by omega), if_pos (by omega)]
    apply Prod.ext <;> simp only <;> omega
/-- No valid rune stands at the front. -/
def badL (l : List UInt8) : Prop := (Lib.decodeL l).1 = 65533 ∧ (Lib.decodeL l).2 = 1
instance (l : List UInt8) : Decidable (badL l) := by unfold badL; infer_instance
def wholeL (l : List UInt8) : Bool := Go.Lib.validRune (valN l) && (Go.Lib.encodeRune (valN l) == l)
theorem rWhole (s : ByteArray) (h1 : 1 ≤ s.size) (h4 : s.size ≤ 4) : Ev (fun k => portcullisref01_whole.f k s) (wholeL s.data.toList) := by
  unfold portcullisref01_whole.f wholeL
  refine Ev.bind (rValue s h1 h4) ?_
  generalize valN s.data.toList = v
  simp only [rScal, Option.bind_some]
  cases hv : Go.Lib.validRune v with
  | false => simp only [Bool.false_eq_true, if_false, Bool.false_and]; exact Ev.const _
  | true =>
    simp only [if_true, rBytes v hv, Option.bind_some, Lib.toList_data, strOfNums_enc, Bool.true_and]
    exact Ev.const _
theorem enc_len (c : Int) : 1 ≤ (Go.Lib.encodeRune c).length ∧ (Go.Lib.encodeRune c).length ≤ 4 := by
  unfold Go.Lib.encodeRune Go.Lib.encodeRuneZ
  repeat' split
  all_goals simp
theorem decodeL_valid (l : List UInt8) : Go.Lib.validRune ((Lib.decodeL l).1 : Int) = true := by
  exact Lib.rune_valid _
theorem decodeL_w4 (l : List UInt8) (hne : l ≠ []) (hb : ¬ badL l) : (Lib.decodeL l).2 ≤ 4 := by
  have h := Lib.encode_decode l hne hb
  have hl := Lib.decodeL_le l hne
  have := enc_len ((Lib.decodeL l).1 : Int)
  rw [h, List.length_take] at this
  omega
theorem wholeL_iff (l : List UInt8) (hne : l ≠ []) (m : Nat) (h1 : 1 ≤ m) (h4 : m ≤ 4) (hm : m ≤ l.length) : wholeL (l.take m) = true ↔ ¬ badL l ∧ m = (Lib.decodeL l).2 := by
  unfold wholeL
  rw [Bool.and_eq_true, beq_iff_eq]
  constructor
  · rintro ⟨hv, he⟩
    generalize valN (l.take m) = c at *
    have hl : l = Go.Lib.encodeRune c ++ l.drop m := by rw [he, List.take_append_drop]
    have hd := decode_enc c hv (l.drop m)
    rw [← hl] at hd
    have hlen : (Go.Lib.encodeRune c).length = m := by rw [he, List.length_take]; omega
    rw [hlen] at hd
    refine ⟨?_, by rw [hd]⟩
    unfold badL
    rw [hd]
    rintro ⟨a, b⟩
    simp only at a b
    have hc : c = 65533 := by
      have := valid_cases hv
      omega
    subst hc
    have : (Go.Lib.encodeRune 65533).length = 3 := rfl
    omega
  · rintro ⟨hb, rfl⟩
    have h := Lib.encode_decode l hne hb
    rw [← h, valN_enc _ (decodeL_valid l)]
    exact ⟨decodeL_valid l, rfl⟩
/-! ### Next -/
theorem begins_any (s : ByteArray) (h2 : 2 ≤ s.size) : ∃ b, Ev (fun k => portcullisref01_begins.f k s) b := by
  have hA : (0 : Int) < (s.size : Int) := by omega
  have hB : (1 : Int) < (s.size : Int) := by omega
  have j2 : ∀ x3 x4 x5 x68, ∃ b, Ev (fun k => portcullisref01_begins.j2 k s x3 x4 x5 x68) b := by
    intro x3 x4 x5 x68
    have e : ∀ k, portcullisref01_begins.j2 (k + 1) s x3 x4 x5 x68 = portcullisref01_begins.j2 1 s x3 x4 x5 x68 := by intro k; rw [portcullisref01_begins.j2, portcullisref01_begins.j2]
    have hs : (portcullisref01_begins.j2 1 s x3 x4 x5 x68).isSome = true := by
      rw [portcullisref01_begins.j2]
      repeat' split
      all_goals first | rfl | omega
    obtain ⟨b, hb⟩ := Option.isSome_iff_exists.1 hs
    exact ⟨b, Ev.of_eq1 (fun k => (e k).trans hb) (Ev.const b)⟩
  have lift : ∀ {g : Nat → Option Bool}, (∃ b, Ev (fun k => g (k + 1)) b) → ∃ b, Ev g b := fun ⟨b, hb⟩ => ⟨b, Ev.of_eq1 (fun k => rfl) hb⟩
  have j1 : ∀ x3 x4 x5 x46, ∃ b, Ev (fun k => portcullisref01_begins.j1 k s x3 x4 x5 x46) b := by
    intro x3 x4 x5 x46
    refine lift ?_
    simp only [portcullisref01_begins.j1]
    repeat' split
    all_goals first | exact ⟨_, Ev.const _⟩ | exact j2 _ _ _ _ | omega
  have j0 : ∀ x3 x4 x5 x46, ∃ b, Ev (fun k => portcullisref01_begins.j0 k s x3 x4 x5 x46) b := by
    intro x3 x4 x5 x46
    refine lift ?_
    simp only [portcullisref01_begins.j0]
    repeat' split
    all_goals first | exact ⟨_, Ev.const _⟩ | exact j1 _ _ _ _ | omega
  unfold portcullisref01_begins.f
  simp only [if_pos hA, if_pos hB]
  split
  · exact j0 _ _ _ _
  · exact j0 _ _ _ _
theorem next_l1 (s : ByteArray) (f : Nat) : ∀ i : Nat, 1 ≤ i → 3 ≤ i + f → ∃ n, Ev (fun k => portcullisref01_Next.l1 k s (i : Int)) ((65533 : Int), (n : Int), false) := by
  induction f with
  | zero =>
    intro i h1 h3
    refine ⟨(i : Int), Ev.of_eq1 (h := fun _ => some ((65533 : Int), (i : Int), false)) (fun k => ?_) (Ev.const _)⟩
    rw [portcullisref01_Next.l1, if_neg (show ¬ ((i : Int) < 3) by omega)]
    simp
  | succ f ih =>
    intro i h1 h3
    by_cases hs : i < s.size
    · by_cases hi : i < 3
      · obtain ⟨b, hb⟩ := begins_any (s.extract 0 (i + 1)) (by rw [ByteArray.size_extract]; omega)
        obtain ⟨n, hn⟩ := ih (i + 1) (by omega) (by omega)
        refine ⟨if b then n else i, Ev.of_eq1 (fun k => by rw [portcullisref01_Next.l1]) ?_⟩
        rw [show wrap64 ((i : Int) + 1) = ((i + 1 : Nat) : Int) from by rw [w64 (by omega) (by omega)]; omega]
        simp only [if_pos (show (i : Int) < (s.size : Int) by omega), if_pos (show (i : Int) < 3 by omega), if_pos (show (0 : Int) ≤ ((i + 1 : Nat) : Int) by omega), if_pos (show ((i + 1 : Nat) : Int) ≤ (s.size : Int) by omega), Int.toNat_natCast]
        refine Ev.bind hb ?_
        cases b with
        | true => simp only [if_true]; exact hn
        | false => simp only [Bool.false_eq_true, if_false]; exact Ev.const _
      · refine ⟨(i : Int), Ev.of_eq1 (h := fun _ => some ((65533 : Int), (i : Int), false)) (fun k => ?_) (Ev.const _)⟩
        rw [portcullisref01_Next.l1, if_neg (show ¬ ((i : Int) < 3) by omega)]
        simp
    · refine ⟨(i : Int), Ev.of_eq1 (h := fun _ => some ((65533 : Int), (i : Int), false)) (fun k => ?_) (Ev.const _)⟩
      rw [portcullisref01_Next.l1, if_neg (show ¬ ((i : Int) < (s.size : Int)) by omega)]
theorem take_extract (s : ByteArray) (m : Nat) : (s.extract 0 m).data.toList = s.data.toList.take m := by
  rw [ByteArray.data_extract]
  simp
theorem next_l0 (s : ByteArray) (hne : s.size ≠ 0) (f : Nat) : ∀ m : Nat, 1 ≤ m → m + f = 5 → (¬ badL s.data.toList → m ≤ (Lib.decodeL s.data.toList).2) →
    ∃ n : Int, Ev (fun k => portcullisref01_Next.l0 k s (m : Int)) (if badL s.data.toList then ((65533 : Int), n, false) else (((Lib.decodeL s.data.toList).1 : Int), ((Lib.decodeL s.data.toList).2 : Int), true)) := by
  have hl : s.data.toList ≠ [] := by
    intro h
    apply hne
    rw [Lib.size_eq, h]
    rfl
  have hsz := Lib.size_eq s
  have hdl := Lib.decodeL_le s.data.toList hl
  have hw4 := decodeL_w4 s.data.toList hl
  have stop : ∀ m : Nat, badL s.data.toList → (¬ m ≤ 4 ∨ ¬ m ≤ s.size) → ∃ n : Int, Ev (fun k => portcullisref01_Next.l0 k s (m : Int)) (if badL s.data.toList then ((65533 : Int), n, false) else (((Lib.decodeL s.data.toList).1 : Int), ((Lib.decodeL s.data.toList).2 : Int), true)) := by
    intro m hb hm
    obtain ⟨n, hn⟩ := next_l1 s 2 1 (by omega) (by omega)
    refine ⟨n, ?_⟩
    rw [if_pos hb]
    have e : ∀ k, portcullisref01_Next.l0 (k + 1) s (m : Int) = portcullisref01_Next.j1 k s (m : Int) false := by
      intro k
      rw [portcullisref01_Next.l0]
      rcases hm with hm | hm
      · rw [if_neg (show ¬ (m : Int) ≤ 4 by omega)]
      · rw [decide_eq_false (show ¬ (m : Int) ≤ (s.size : Int) by omega)]
        split <;> rfl
    refine Ev.of_eq1 e ?_
    refine Ev.of_eq1 (fun k => by rw [portcullisref01_Next.j1]) ?_
    simp only [Bool.false_eq_true, if_false]
    exact hn
  induction f with
  | zero =>
    intro m h1 h5 hw
    by_cases hb : badL s.data.toList
    · exact stop m hb (.inl (by omega))
    · exact absurd (hw hb) (by have := hw4 hb; omega)
  | succ f ih =>
    intro m h1 h5 hw
    by_cases hms : m ≤ s.size
    · have hwh := wholeL_iff s.data.toList hl m h1 (by omega) (by omega)
      have hsx : (s.extract 0 m).size = m := by rw [ByteArray.size_extract]; omega
      have hv := rValue (s.extract 0 m) (by omega) (by omega)
      have hwv := rWhole (s.extract 0 m) (by omega) (by omega)
      rw [take_extract] at hv hwv
      have e : ∀ k, portcullisref01_Next.l0 (k + 1) s (m : Int) = portcullisref01_Next.j1 k s (m : Int) true := by
        intro k
        rw [portcullisref01_Next.l0, if_pos (show (m : Int) ≤ 4 by omega), decide_eq_true (show (m : Int) ≤ (s.size : Int) by omega)]
      cases hq : wholeL (s.data.toList.take m) with
      | true =>
        obtain ⟨hb, hmw⟩ := hwh.1 hq
        refine ⟨0, ?_⟩
        rw [if_neg hb]
        refine Ev.of_eq1 e (Ev.of_eq1 (fun k => by rw [portcullisref01_Next.j1]) ?_)
        simp only [if_true, if_pos (show (0 : Int) ≤ (m : Int) by omega), if_pos (show (m : Int) ≤ (s.size : Int) by omega), Int.toNat_natCast]
        refine Ev.bind hwv ?_
        simp only [hq, if_true]
        refine Ev.bind hv ?_
        have hx : valN (s.data.toList.take m) = ((Lib.decodeL s.data.toList).1 : Int) := by
          rw [hmw, ← Lib.encode_decode _ hl hb, valN_enc _ (decodeL_valid _)]
        rw [hx, hmw]
        exact Ev.const _
      | false =>
        have hnw : ¬ (¬ badL s.data.toList ∧ m = (Lib.decodeL s.data.toList).2) := by
          intro h
          rw [hwh.2 h] at hq
          cases hq
        have hw' : ¬ badL s.data.toList → m + 1 ≤ (Lib.decodeL s.data.toList).2 := by
          intro hb
          have h1 := hw hb
          have h2 : m ≠ (Lib.decodeL s.data.toList).2 := fun h => hnw ⟨hb, h⟩
          omega
        obtain ⟨n, hn⟩ := ih (m + 1) (by omega) (by omega) hw'
        refine ⟨n, ?_⟩
        refine Ev.of_eq1 e (Ev.of_eq1 (fun k => by rw [portcullisref01_Next.j1]) ?_)
        simp only [if_true, if_pos (show (0 : Int) ≤ (m : Int) by omega), if_pos (show (m : Int) ≤ (s.size : Int) by omega), Int.toNat_natCast]
        refine Ev.bind hwv ?_
        rw [show wrap64 ((m : Int) + 1) = ((m + 1 : Nat) : Int) from by rw [w64 (by omega) (by omega)]; omega]
        simp only [hq, Bool.false_eq_true, if_false]
        exact hn
    · by_cases hb : badL s.data.toList
      · exact stop m hb (.inr hms)
      · exact absurd (hw hb) (by omega)
theorem rNext (s : ByteArray) (hne : s.size ≠ 0) : ∃ n : Int, Ev (fun k => portcullisref01_Next.f k s) (if badL s.data.toList then ((65533 : Int), n, false) else (((Lib.decodeL s.data.toList).1 : Int), ((Lib.decodeL s.data.toList).2 : Int), true)) := by
  have hl : s.data.toList ≠ [] := by
    intro h
    apply hne
    rw [Lib.size_eq, h]
    rfl
  obtain ⟨n, hn⟩ := next_l0 s hne 4 1 (by omega) (by omega) (fun _ => Lib.decodeL_width _)
  refine ⟨n, Ev.of_eq (fun k => ?_) hn⟩
  unfold portcullisref01_Next.f
  rw [Lib.toList_data, if_neg hl]
  rfl
/-! ### bad, plain -/
def posI : Option Nat → Int
  | some i => (i : Int)
  | none => -1
theorem drop_extract (s : ByteArray) (i : Nat) : (s.extract i s.size).data.toList = s.data.toList.drop i := extract_data s i
theorem rBad_l0 (s : ByteArray) (hs : s.size ≤ 140737488355328) (f : Nat) : ∀ i : Nat, i ≤ s.size → s.size ≤ i + f → Ev (fun k => portcullisref15_bad.l0 k s (i : Int)) (posI (utfAt s f i)) := by
  induction f with
  | zero =>
    intro i h h2
    refine Ev.of_eq1 (fun k => by rw [portcullisref15_bad.l0, if_neg (show ¬ (i : Int) < (s.size : Int) by omega)]) ?_
    exact Ev.const _
  | succ f ih =>
    intro i h h2
    by_cases hi : i < s.size
    · obtain ⟨n, hn⟩ := rNext (s.extract i s.size) (by rw [ByteArray.size_extract]; omega)
      rw [drop_extract, Lib.decodeL_drop] at hn
      have hbe : badL (s.data.toList.drop i) ↔ ((Utf8.decode s i).1 = 65533 ∧ (Utf8.decode s i).2 = 1) := by unfold badL; rw [Lib.decodeL_drop]
      have hw1 := width_pos s i hi
      have hw2 := decode_end s i hi
      refine Ev.of_eq1 (fun k => by rw [portcullisref15_bad.l0]) ?_
      simp only [if_pos (show (i : Int) < (s.size : Int) by omega), if_pos (show (0 : Int) ≤ (i : Int) by omega), if_pos (show (i : Int) ≤ (s.size : Int) by omega), Int.toNat_natCast, utfAt, if_pos hi]
      by_cases hb : badL (s.data.toList.drop i)
      · rw [if_pos hb] at hn
        refine Ev.bind hn ?_
        simp only [Bool.false_eq_true, if_false, if_pos (hbe.1 hb), posI]
        exact Ev.const _
      · rw [if_neg hb] at hn
        refine Ev.bind hn ?_
        simp only [if_true, if_neg (fun h => hb (hbe.2 h))]
        rw [show wrap64 ((i : Int) + ((Utf8.decode s i).2 : Int)) = ((i + (Utf8.decode s i).2 : Nat) : Int) from by rw [w64 (by omega) (by omega)]; omega]
        exact ih _ hw2 (by omega)
    · refine Ev.of_eq1 (fun k => by rw [portcullisref15_bad.l0, if_neg (show ¬ (i : Int) < (s.size : Int) by omega)]) ?_
      rw [utfAt_end _ _ _ hi]
      exact Ev.const _
theorem rBad (s : ByteArray) (hs : s.size ≤ 140737488355328) : Ev (fun k => portcullisref15_bad.f k s) (posI (utfAt s s.size 0)) := by
  unfold portcullisref15_bad.f
  exact rBad_l0 s hs s.size 0 (by omega) (by omega)
def ctlB (c : Int) : Prop := (c < 32 ∧ c ≠ 9) ∨ c = 127
instance (c : Int) : Decidable (ctlB c) := by unfold ctlB; infer_instance
def plainF (s : ByteArray) : Nat → Nat → Option Nat
  | 0, _ => none
  | f + 1, i => if i < s.size then (if ctlB (bn s i) then some i else plainF s f (i + 1)) else none
theorem plainF_end (s : ByteArray) (f i : Nat) (h : ¬ i < s.size) : plainF s f i = none := by cases f <;> simp [plainF, h]
theorem plainF_skip (s : ByteArray) (w : Nat) : ∀ f i : Nat, i + w ≤ s.size → s.size ≤ i + f → (∀ k, k < w → ¬ ctlB (bn s (i + k))) → plainF s f i = plainF s (f - w) (i + w) := by
  induction w with
  | zero => intro f i _ _ _; rfl
  | succ w ih =>
    intro f i h h2 hc
    obtain ⟨g, rfl⟩ : ∃ g, f = g + 1 := ⟨f - 1, by omega⟩
    rw [plainF, if_pos (show i < s.size by omega), if_neg (by simpa using hc 0 (by omega)), ih g (i + 1) (by omega) (by omega) (fun k hk => by have := hc (k + 1) (by omega); rwa [show i + (k + 1) = i + 1 + k by omega] at this), show g + 1 - (w + 1) = g - w by omega, show i + 1 + w = i + (w + 1) by omega]
theorem ctl_plain (s : ByteArray) (f : Nat) : ∀ i : Nat, i ≤ s.size → s.size ≤ i + f → ctlAt s f i = plainF s f i := by
  induction f using Nat.strongRecOn with
  | _ f ih =>
    intro i h h2
    by_cases hi : i < s.size
    · obtain ⟨g, rfl⟩ : ∃ g, f = g + 1 := ⟨f - 1, by omega⟩
      have hw1 := width_pos s i hi
      have hw2 := decode_end s i hi
      have hbn : bn s i = ((s[i]'hi).toNat : Int) := by unfold bn; rw [dif_pos hi]
      rw [ctlAt, if_pos hi]
      by_cases ha : (s[i]'hi).toNat < 128
      · have hd := decode_ascii s i hi ha
        rw [plainF, if_pos hi, hd, hbn]
        simp only
        by_cases hc : ctlB ((s[i]'hi).toNat : Int)
        · rw [if_pos hc, if_pos (by unfold ctlB at hc; omega)]
        · rw [if_neg hc, if_neg (by unfold ctlB at hc; omega)]
          exact ih g (by omega) (i + 1) (by omega) (by omega)
      · obtain ⟨hr, _⟩ := decode_high s i hi (by omega)
        have hall : ∀ k, k < (Utf8.decode s i).2 → ¬ ctlB (bn s (i + k)) := by
          intro k hk
          have hik : i + k < s.size := by omega
          have hb : s.data.toList[i + k]? = some (s[i + k]'hik) := by
            have hlt : i + k < s.data.toList.length := by rw [← Lib.size_eq]; exact hik
            rw [List.getElem?_eq_getElem hlt]
            simp [ByteArray.getElem_eq_getElem_data]
          have hge := decode_bytes s i hi (by omega) k hk _ hb
          unfold ctlB bn
          rw [dif_pos hik]
          omega
        rw [if_neg (by omega), plainF_skip s (Utf8.decode s i).2 (g + 1) i hw2 (by omega) hall]
        by_cases hlt : i + (Utf8.decode s i).2 < s.size
        · rw [ih g (by omega) _ hw2 (by omega)]
          have fuel : ∀ (d a j : Nat), s.size ≤ j + a → plainF s (a + d) j = plainF s a j := by
            intro d a
            induction a with
            | zero => intro j hj; rw [plainF_end _ _ _ (by omega), plainF_end _ _ _ (by omega)]
            | succ a iha => intro j hj; rw [show a + 1 + d = (a + d) + 1 by omega, plainF, plainF, iha (j + 1) (by omega)]
          have := fuel ((Utf8.decode s i).2 - 1) (g + 1 - (Utf8.decode s i).2) (i + (Utf8.decode s i).2) (by omega)
          rw [← this]
          congr 1
          omega
        · rw [ctlAt_end _ _ _ hlt, plainF_end _ _ _ hlt]
    · rw [ctlAt_end _ _ _ hi, plainF_end _ _ _ hi]
theorem rPlain_l0 (s : ByteArray) (hs : s.size ≤ 140737488355328) (f : Nat) : ∀ i : Nat, i ≤ s.size → s.size ≤ i + f → Ev (fun k => portcullisref15_plain.l0 k s (i : Int)) (posI (plainF s f i)) := by
  induction f with
  | zero =>
    intro i h h2
    refine Ev.of_eq1 (fun k => by rw [portcullisref15_plain.l0, if_neg (show ¬ (i : Int) < (s.size : Int) by omega)]) ?_
    exact Ev.const _
  | succ f ih =>
    intro i h h2
    by_cases hi : i < s.size
    · refine Ev.of_eq1 (fun k => by rw [portcullisref15_plain.l0]) ?_
      simp only [if_pos (show (i : Int) < (s.size : Int) by omega), if_pos (show (0 : Int) ≤ (i : Int) by omega), plainF, if_pos hi, bt_bn]
      rw [show wrap64 ((i : Int) + 1) = ((i + 1 : Nat) : Int) from by rw [w64 (by omega) (by omega)]; omega]
      have ih' := ih (i + 1) (by omega) (by omega)
      generalize bn s i = c at *
      by_cases a : c < 32
      · by_cases b : c = 9
        · subst b
          rw [if_neg (show ¬ ctlB 9 by decide)]
          simpa using ih'
        · rw [if_pos (show ctlB c from .inl ⟨a, b⟩)]
          simp only [if_pos a, if_neg b, posI]
          exact Ev.const _
      · by_cases b : c = 127
        · rw [if_pos (show ctlB c from .inr b)]
          simp only [if_neg a, if_pos b, posI]
          exact Ev.const _
        · rw [if_neg (show ¬ ctlB c by unfold ctlB; omega)]
          simp only [if_neg a, if_neg b]
          exact ih'
    · refine Ev.of_eq1 (fun k => by rw [portcullisref15_plain.l0, if_neg (show ¬ (i : Int) < (s.size : Int) by omega)]) ?_
      rw [plainF_end _ _ _ hi]
      exact Ev.const _
theorem rPlain (s : ByteArray) (hs : s.size ≤ 140737488355328) : Ev (fun k => portcullisref15_plain.f k s) (posI (ctlAt s s.size 0)) := by
  rw [ctl_plain s s.size 0 (by omega) (by omega)]
  unfold portcullisref15_plain.f
  exact rPlain_l0 s hs s.size 0 (by omega) (by omega)
end Go.Proofs.YtfndanccnjggfaaDoor.Pure
/- What is proved: a line's tokens by lists of bytes, and that the program's way to read a line is this one. -/
namespace Go.Proofs.YtfndanccnjggfaaDoor.Pure
open Go.RowKit Go.Proofs.YtfndanccnjggfaaDoor.Q Go.Proofs.YtfndanccnjggfaaDoorW.PrintWords Go.Proofs.YtfndanccnjggfaaDoorW.PrintLast Go.Proofs.YtfndanccnjggfaaDoorW.PrintMore
set_option linter.unusedVariables false
set_option linter.unusedSimpArgs false
/-! ### a line, by lists -/
def sepB (c : UInt8) : Bool := sep6.data.toList.contains c
def tw (l : List UInt8) : List UInt8 := l.takeWhile fun c => !sepB c
def dw (l : List UInt8) : List UInt8 := l.dropWhile fun c => !sepB c
def isHex (c : UInt8) : Bool := (dig16 c.toNat).isSome
def hexStep (a : Nat) (c : UInt8) : Nat := 16 * a + (dig16 c.toNat).getD 0
def hexVal (l : List UInt8) : Nat := l.foldl hexStep 0
def hexL (r : List UInt8) : Option (List UInt8 × List UInt8) :=
  match r.dropWhile isHex with
  | [] => none
  | c :: r' => if c = 125 ∧ 1 ≤ (r.takeWhile isHex).length ∧ (r.takeWhile isHex).length ≤ 6 ∧ Go.Lib.validRune (hexVal (r.takeWhile isHex) : Int) = true then some (Go.Lib.encodeRune (hexVal (r.takeWhile isHex) : Int), r') else none
/-- What a backslash says; l stands behind it. -/
def escL : List UInt8 → Option (List UInt8 × List UInt8)
  | [] => none
  | c :: r =>
    if c = 34 ∨ c = 92 then some ([c], r)
    else if c = 117 then (match r with | [] => none | d :: r' => if d = 123 then hexL r' else none)
    else none
def textL : Nat → List UInt8 → List UInt8 → Except (Option (List UInt8)) (List UInt8 × List UInt8)
  | 0, _, _ => .error none
  | _ + 1, [], _ => .error none
  | f + 1, c :: r, b =>
    if c = 34 then .ok (b, r)
    else if c = 92 then (match escL r with | none => .error (some (c :: r)) | some (x, r') => textL f r' (b ++ x))
    else textL f r (b ++ [c])
def lineL (N : Nat) (n : Int) : Nat → List UInt8 → List S36 → Except Nat (List S36)
  | 0, _, l => .ok l
  | _ + 1, [], l => .ok l
  | f + 1, c :: r, l =>
    if c = 32 ∨ c = 9 then lineL N n f r l
    else if c = 35 then .ok l
    else if c = 44 then lineL N n f r (l ++ [⟨3, ⟨#[]⟩, n, ((N - (r.length + 1) : Nat) : Int)⟩])
    else if c = 33 then lineL N n f r (l ++ [⟨4, ⟨#[]⟩, n, ((N - (r.length + 1) : Nat) : Int)⟩])
    else if c = 34 then
      match textL (f + 1) r [] with
      | .ok (t, r') => lineL N n f r' (l ++ [⟨2, ⟨t.toArray⟩, n, ((N - (r.length + 1) : Nat) : Int)⟩])
      | .error none => .error (N - (r.length + 1))
      | .error (some r') => .error (N - r'.length)
    else lineL N n f (dw r) (l ++ [⟨1, ⟨(c :: tw r).toArray⟩, n, ((N - (r.length + 1) : Nat) : Int)⟩])
/-! ### small things -/
theorem ue (c : UInt8) (n : Nat) (hn : n < 256) : (c.toNat : Int) = (n : Int) ↔ c = UInt8.ofNat n := by
  constructor
  · intro h
    apply UInt8.toNat_inj.1
    rw [UInt8.toNat_ofNat']
    omega
  · rintro rfl
    rw [UInt8.toNat_ofNat']
    omega
theorem dropc (s : ByteArray) (i : Nat) (h : i < s.size) : ∃ c : UInt8, s.data.toList.drop i = c :: s.data.toList.drop (i + 1) ∧ bn s i = (c.toNat : Int) := by
  obtain ⟨c, h1, h2⟩ := bt_list s i h
  obtain ⟨h3, rfl⟩ := List.getElem?_eq_some_iff.1 h1
  exact ⟨_, List.drop_eq_getElem_cons h3, h2⟩
theorem len_drop (s : ByteArray) (i : Nat) : (s.data.toList.drop i).length = s.size - i := by rw [List.length_drop, Lib.size_eq]
theorem dropWhile_len {α : Type} (p : α → Bool) (l : List α) : (l.dropWhile p).length ≤ l.length := (List.dropWhile_sublist p).length_le
theorem tw_dw (l : List UInt8) : tw l ++ dw l = l := List.takeWhile_append_dropWhile
theorem escL_cons (c : UInt8) (r : List UInt8) : escL (c :: r) = if c = 34 ∨ c = 92 then some ([c], r) else if c = 117 then (match r with | [] => none | d :: r' => if d = 123 then hexL r' else none) else none := rfl
theorem hexL_len {r x r' : List UInt8} (h : hexL r = some (x, r')) : r'.length < r.length := by
  unfold hexL at h
  have hl := dropWhile_len isHex r
  split at h
  · cases h
  · rename_i c r1 he
    rw [he] at hl
    split at h
    · injection h with h
      injection h with _ h
      subst h
      rw [List.length_cons] at hl
      omega
    · cases h
theorem escL_len {r x r' : List UInt8} (h : escL r = some (x, r')) : r'.length < r.length := by
  unfold escL at h
  split at h
  · cases h
  · split at h
    · injection h with h
      injection h with _ h
      subst h
      simp
    · split at h
      · split at h
        · cases h
        · split at h
          · have := hexL_len h
            simp only [List.length_cons]
            omega
          · cases h
      · cases h
theorem textL_len : ∀ {f : Nat} {r b t r' : List UInt8}, textL f r b = .ok (t, r') → r'.length < r.length := by
  intro f
  induction f with
  | zero => intro r b t r' h; simp [textL] at h
  | succ f ih =>
    intro r b t r' h
    cases r with
    | nil => simp [textL] at h
    | cons c r =>
      unfold textL at h
      split at h
      · injection h with h
        injection h with _ h
        subst h
        simp
      · split at h
        · split at h
          · cases h
          · rename_i x r1 he
            have h1 := escL_len he
            have h2 := ih h
            simp only [List.length_cons]
            omega
        · have h2 := ih h
          simp only [List.length_cons]
          omega
theorem hexL_suffix {r x r' : List UInt8} (h : hexL r = some (x, r')) : ∃ p, p ++ r' = r := by
  unfold hexL at h
  have hl := List.takeWhile_append_dropWhile (p := isHex) (l := r)
  split at h
  · cases h
  · rename_i c r1 he
    rw [he] at hl
    split at h
    · injection h with h
      injection h with _ h
      subst h
      exact ⟨r.takeWhile isHex ++ [c], by rw [List.append_assoc]; exact hl⟩
    · cases h
theorem escL_suffix {r x r' : List UInt8} (h : escL r = some (x, r')) : ∃ p, p ++ r' = r := by
  unfold escL at h
  split at h
  · cases h
  · rename_i c r0
    split at h
    · injection h with h
      injection h with _ h
      subst h
      exact ⟨[c], rfl⟩
    · split at h
      · split at h
        · cases h
        · rename_i d r1
          split at h
          · obtain ⟨p, hp⟩ := hexL_suffix h
            exact ⟨c :: d :: p, by rw [List.cons_append, List.cons_append, hp]⟩
          · cases h
      · cases h
theorem textL_suffix : ∀ {f : Nat} {r b t r' : List UInt8}, textL f r b = .ok (t, r') → ∃ p, p ++ r' = r := by
  intro f
  induction f with
  | zero => intro r b t r' h; simp [textL] at h
  | succ f ih =>
    intro r b t r' h
    cases r with
    | nil => simp [textL] at h
    | cons c r =>
      unfold textL at h
      split at h
      · injection h with h
        injection h with _ h
        subst h
        exact ⟨[c], rfl⟩
      · split at h
        · split at h
          · cases h
          · rename_i x r1 he
            obtain ⟨p, hp⟩ := escL_suffix he
            obtain ⟨q, hq⟩ := ih h
            exact ⟨c :: (p ++ q), by rw [List.cons_append, List.append_assoc, hq, hp]⟩
        · obtain ⟨q, hq⟩ := ih h
          exact ⟨c :: q, by rw [List.cons_append, hq]⟩
/-! ### fuel -/
/-! ### the program's way -/
theorem indexAny_tw : ∀ (l : List UInt8), (if Lib.indexAny l sep6.data.toList < 0 then l.length else (Lib.indexAny l sep6.data.toList).toNat) = (tw l).length
  | [] => rfl
  | c :: l => by
    have ih := indexAny_tw l
    have hge := Lib.indexAny_ge sep6.data.toList l
    unfold Lib.indexAny tw
    rw [List.takeWhile_cons]
    unfold sepB
    cases hc : sep6.data.toList.contains c with
    | true => simp
    | false =>
      simp only [Bool.not_false, if_true, Bool.false_eq_true, if_false, List.length_cons]
      have e : (l.takeWhile fun c => !sep6.data.toList.contains c) = tw l := rfl
      rw [e, ← ih]
      by_cases h1 : Lib.indexAny l sep6.data.toList = -1
      · rw [h1]; simp
      · have h2 : ¬ Lib.indexAny l sep6.data.toList < 0 := by omega
        rw [if_neg h2]
        have hbe : (Lib.indexAny l sep6.data.toList == -1) = false := by rw [beq_eq_false_iff_ne]; exact h1
        rw [hbe]
        simp only [Bool.false_eq_true, if_false]
        rw [if_neg (by omega)]
        omega
theorem wlen_tw (s : ByteArray) (i : Nat) : wlen s i = (tw (s.data.toList.drop i)).length := by
  have h := indexAny_tw (s.data.toList.drop i)
  unfold wlen
  rw [drop_extract, ← h, len_drop]
theorem tw_len_take (l : List UInt8) : l.take (tw l).length = tw l := by
  have h := tw_dw l
  have h2 : (tw l ++ dw l).take (tw l).length = tw l := List.take_left
  rwa [h] at h2
theorem tw_len_drop (l : List UInt8) : l.drop (tw l).length = dw l := by
  have h := tw_dw l
  have h2 : (tw l ++ dw l).drop (tw l).length = dw l := List.drop_left
  rwa [h] at h2
theorem extract_of (s : ByteArray) (i j : Nat) : s.extract i j = ⟨((s.data.toList.drop i).take (j - i)).toArray⟩ := by
  have h := Lib.extract_data s i j
  cases hs : s.extract i j with
  | mk d =>
    rw [hs] at h
    simp only at h
    rw [← h]
theorem indexByte_no (c : UInt8) : ∀ l : List UInt8, Lib.indexByte l c = -1 → c ∉ l
  | [], _ => by simp
  | b :: l, h => by
    have hge := Lib.indexByte_ge l c
    unfold Lib.indexByte at h
    split at h
    · omega
    · rename_i hb
      split at h
      · rename_i h1
        rw [beq_iff_eq] at h1
        have := indexByte_no c l h1
        rw [List.mem_cons]
        rintro (rfl | h2)
        · simp at hb
        · exact this h2
      · omega
theorem indexByte_yes (c : UInt8) : ∀ (l : List UInt8) (i : Nat), Lib.indexByte l c = (i : Int) → l = l.take i ++ c :: l.drop (i + 1) ∧ c ∉ l.take i ∧ i < l.length
  | [], i, h => by
    have : (-1 : Int) = (i : Int) := h
    omega
  | b :: l, i, h => by
    have hge := Lib.indexByte_ge l c
    unfold Lib.indexByte at h
    split at h
    · rename_i hb
      rw [beq_iff_eq] at hb
      subst hb
      obtain rfl : i = 0 := by omega
      simp
    · rename_i hb
      split at h
      · omega
      · rename_i h9
        have h10 : Lib.indexByte l c ≠ -1 := fun e => h9 (by rw [e]; rfl)
        obtain ⟨j, rfl⟩ : ∃ j, i = j + 1 := ⟨i - 1, by omega⟩
        obtain ⟨h1, h2, h3⟩ := indexByte_yes c l j (by omega)
        refine ⟨?_, ?_, by simp only [List.length_cons]; omega⟩
        · rw [List.take_succ_cons, List.drop_succ_cons, List.cons_append, ← h1]
        · rw [List.take_succ_cons, List.mem_cons]
          rintro (rfl | h4)
          · simp at hb
          · exact h2 h4
theorem ascii_decode (s : ByteArray) (pos : Nat) (h : pos < s.size) : (bn s pos < 128 ∧ Utf8.decode s pos = ((bn s pos).toNat, 1)) ∨ (128 ≤ bn s pos ∧ 128 ≤ (Utf8.decode s pos).1) := by
  have hb : bn s pos = ((s[pos]'h).toNat : Int) := by unfold bn; rw [dif_pos h]
  by_cases ha : (s[pos]'h).toNat < 128
  · left
    rw [hb]
    exact ⟨by omega, by rw [decode_ascii s pos h ha]; simp⟩
  · right
    rw [hb]
    exact ⟨by omega, (decode_high s pos h (by omega)).1⟩
theorem dig16_high {c : Nat} (h : 128 ≤ c) : dig16 c = none := by
  unfold dig16
  rw [if_neg (by omega), if_neg (by omega), if_neg (by omega)]
theorem pointFrom_eq (s : ByteArray) (f : Nat) : ∀ pos acc : Nat, pos ≤ s.size → s.size ≤ pos + f →
    pointFrom s f pos acc = if (s.data.toList.drop pos).all isHex then some ((s.data.toList.drop pos).foldl hexStep acc) else none := by
  induction f with
  | zero =>
    intro pos acc h h2
    have : s.data.toList.drop pos = [] := List.eq_nil_of_length_eq_zero (by rw [len_drop]; omega)
    rw [this]
    rfl
  | succ f ih =>
    intro pos acc h h2
    by_cases hp : pos < s.size
    · obtain ⟨c, he, hb⟩ := dropc s pos hp
      rw [he, pointFrom, if_pos hp]
      rcases ascii_decode s pos hp with ⟨h3, h4⟩ | ⟨h3, h4⟩
      · rw [h4, hb]
        simp only [Int.toNat_natCast, List.all_cons, List.foldl_cons, isHex, hexStep]
        rcases Option.eq_none_or_eq_some (dig16 c.toNat) with hd | ⟨k, hd⟩
        · simp [hd]
        · simp only [hd, Option.isSome_some, Bool.true_and, Option.getD_some]
          exact ih (pos + 1) _ (by omega) (by omega)
      · rw [dig16_high h4]
        simp only [List.all_cons, isHex, dig16_high (show 128 ≤ c.toNat by omega)]
        simp
    · rw [pointFrom_end _ _ _ _ hp]
      have : s.data.toList.drop pos = [] := List.eq_nil_of_length_eq_zero (by rw [len_drop]; omega)
      rw [this]
      rfl
theorem takeWhile_all {p : UInt8 → Bool} : ∀ {l : List UInt8} (c : UInt8) (r : List UInt8), l.all p = true → p c = false → (l ++ c :: r).takeWhile p = l ∧ (l ++ c :: r).dropWhile p = c :: r
  | [], c, r, _, hc => by simp [List.takeWhile_cons, List.dropWhile_cons, hc]
  | a :: l, c, r, h, hc => by
    rw [List.all_cons, Bool.and_eq_true] at h
    obtain ⟨h1, h2⟩ := takeWhile_all c r h.2 hc
    rw [List.cons_append, List.takeWhile_cons, List.dropWhile_cons, h.1]
    simp only [if_true]
    exact ⟨by rw [h1], h2⟩
theorem dropWhile_some {p : UInt8 → Bool} : ∀ {l : List UInt8} (r : List UInt8), l.all p = false → ∃ c r', (l ++ r).dropWhile p = c :: r' ∧ c ∈ l
  | [], r, h => by simp at h
  | a :: l, r, h => by
    rw [List.cons_append, List.dropWhile_cons]
    cases ha : p a with
    | false => exact ⟨a, l ++ r, by simp, by simp⟩
    | true =>
      simp only [if_true]
      rw [List.all_cons, ha, Bool.true_and] at h
      obtain ⟨c, r', h1, h2⟩ := dropWhile_some r h
      exact ⟨c, r', h1, by simp [h2]⟩
theorem dropWhile_mem {p : UInt8 → Bool} : ∀ {l : List UInt8} {c : UInt8} {r : List UInt8}, l.dropWhile p = c :: r → c ∈ l := by
  intro l c r h
  have h1 : c ∈ l.dropWhile p := by rw [h]; simp
  exact (List.dropWhile_sublist p).subset h1
theorem point_hex (s : ByteArray) : hexL s.data.toList = if (pointF s).2 = 0 then none else some (Go.Lib.encodeRune (pointF s).1, s.data.toList.drop (pointF s).2.toNat) := by
  have hsz := Lib.size_eq s
  have h125 : isHex 125 = false := rfl
  unfold pointF
  by_cases hn : Lib.indexByte s.data.toList 125 = -1
  · have hcut : cutA s 125 = (s, ⟨#[]⟩, false) := by unfold cutA; rw [if_pos hn]
    rw [hcut]
    simp only [true_or, if_true]
    have hno := indexByte_no 125 _ hn
    unfold hexL
    split
    · rfl
    · rename_i c r' he
      rw [if_neg]
      rintro ⟨rfl, _⟩
      exact hno (dropWhile_mem he)
  · have hge := Lib.indexByte_ge s.data.toList 125
    obtain ⟨i, hi⟩ : ∃ i : Nat, Lib.indexByte s.data.toList 125 = (i : Int) := ⟨(Lib.indexByte s.data.toList 125).toNat, by omega⟩
    obtain ⟨h1, h2, h3⟩ := indexByte_yes 125 _ i hi
    have hx : (s.extract 0 i).size = i := by rw [ByteArray.size_extract]; omega
    have hcut : cutA s 125 = (s.extract 0 i, s.extract (i + 1) s.size, true) := by unfold cutA; rw [if_neg hn, hi, Int.toNat_natCast]
    rw [hcut]
    simp only [hx, Bool.true_eq_false, false_or]
    rw [pointFrom_eq _ _ 0 0 (by omega) (by omega), take_extract, List.drop_zero]
    have hlen : (s.data.toList.take i).length = i := by rw [List.length_take]; omega
    generalize hpre : s.data.toList.take i = pre at *
    cases ha : pre.all isHex with
    | false =>
      have hr : (if False ∨ i = 0 ∨ 6 < i then ((0 : Int), (0 : Int)) else (match (if false = true then some (List.foldl hexStep 0 pre) else none) with | none => (0, 0) | some c => if Lib.validRune (c : Int) = true then ((c : Int), (i : Int) + 1) else (0, 0))) = (0, 0) := by simp
      simp only [Bool.false_eq_true, if_false, ite_self, if_true]
      obtain ⟨c, r', he, hc⟩ := dropWhile_some (125 :: s.data.toList.drop (i + 1)) ha
      rw [← h1] at he
      unfold hexL
      rw [he]
      simp only
      rw [if_neg]
      rintro ⟨rfl, _⟩
      exact h2 hc
    | true =>
      obtain ⟨e1, e2⟩ := takeWhile_all 125 (s.data.toList.drop (i + 1)) ha h125
      rw [← h1] at e1 e2
      simp only [if_true]
      unfold hexL hexVal
      rw [e1, e2, hlen]
      simp only [true_and]
      by_cases c1 : i = 0 ∨ 6 < i
      · rw [if_pos c1, if_neg (by omega)]
        simp
      · rw [if_neg c1]
        cases hv : Lib.validRune ((List.foldl hexStep 0 pre : Nat) : Int) with
        | false => simp
        | true =>
          rw [if_pos ⟨by omega, by omega, rfl⟩]
          simp only [if_true]
          rw [if_neg (by omega)]
          rw [show ((i : Int) + 1).toNat = i + 1 by omega]
def nums (l : List UInt8) : List Int := l.map fun c => (c.toNat : Int)
theorem strOfNums_nums (l : List UInt8) : strOfNums (nums l) = ⟨l.toArray⟩ := by
  unfold strOfNums nums
  rw [List.map_map]
  congr 2
  conv => rhs; rw [← List.map_id l]
  apply List.map_congr_left
  intro c _
  simp
theorem nums_enc (c : Int) : nums (Go.Lib.encodeRune c) = Go.Lib.encodeRuneZ c := by
  unfold nums Go.Lib.encodeRune
  rw [List.map_map]
  conv => rhs; rw [← List.map_id (Go.Lib.encodeRuneZ c)]
  apply List.map_congr_left
  intro x hx
  have := Go.Lib.encodeRuneZ_byte c x hx
  exact u8n x this.1 this.2
theorem nums_append (a b : List UInt8) : nums (a ++ b) = nums a ++ nums b := List.map_append
theorem text_eq (s : ByteArray) (a : Nat) (f : Nat) : ∀ (g i : Nat) (b : List UInt8), i ≤ s.size → s.size < i + f → s.size < i + g →
    textFrom s a f i (nums b) = (match textL g (s.data.toList.drop i) b with
      | .ok (t, r) => .ok (nums t, s.size - r.length)
      | .error none => .error a
      | .error (some r) => .error (s.size - r.length)) := by
  induction f with
  | zero => intro g i b h h2; omega
  | succ f ih =>
    intro g i b h h2 h3
    obtain ⟨g, rfl⟩ : ∃ g', g = g' + 1 := ⟨g - 1, by omega⟩
    by_cases hi : i < s.size
    · obtain ⟨c, he, hb⟩ := dropc s i hi
      rw [he, textFrom, if_pos hi, textL, hb]
      have e34 : ((c.toNat : Nat) : Int) = 34 ↔ c = 34 := ue c 34 (by omega)
      have e92 : ((c.toNat : Nat) : Int) = 92 ↔ c = 92 := ue c 92 (by omega)
      by_cases c1 : c = 34
      · rw [if_pos (e34.2 c1), if_pos c1]
        simp only [len_drop]
        congr 2
        omega
      · rw [if_neg (fun h => c1 (e34.1 h)), if_neg c1]
        by_cases c2 : c = 92
        · rw [if_pos (e92.2 c2), if_pos c2]
          have hd0 : (s.data.toList.drop i).length = s.size - i := len_drop s i
          by_cases h1 : i + 1 < s.size
          · obtain ⟨d, hd, hbd⟩ := dropc s (i + 1) h1
            rw [hd, hbd]
            have d34 : ((d.toNat : Nat) : Int) = 34 ↔ d = 34 := ue d 34 (by omega)
            have d92 : ((d.toNat : Nat) : Int) = 92 ↔ d = 92 := ue d 92 (by omega)
            have d117 : ((d.toNat : Nat) : Int) = 117 ↔ d = 117 := ue d 117 (by omega)
            rw [escL_cons]
            by_cases c3 : d = 34 ∨ d = 92
            · rw [if_pos ⟨h1, (c3.imp d34.2 d92.2).symm⟩, if_pos c3]
              have := ih g (i + 2) (b ++ [d]) (by omega) (by omega) (by omega)
              rw [nums_append] at this
              exact this
            · rw [if_neg (fun h => c3 (h.2.symm.imp d34.1 d92.1)), if_neg c3]
              by_cases c4 : d = 117
              · rw [if_pos c4]
                have hpt := point_hex (s.extract (i + 3) s.size)
                rw [drop_extract] at hpt
                have hpb := pointF_bounds (s.extract (i + 3) s.size)
                by_cases h5 : i + 2 < s.size
                · obtain ⟨e, hde, hbe⟩ := dropc s (i + 2) h5
                  rw [hde, hbe]
                  have e123 : ((e.toNat : Nat) : Int) = 123 ↔ e = 123 := ue e 123 (by omega)
                  simp only
                  by_cases c5 : e = 123
                  · rw [if_pos ⟨h5, d117.2 c4, e123.2 c5⟩, if_pos c5, hpt]
                    by_cases c6 : (pointF (s.extract (i + 3) s.size)).2 = 0
                    · rw [if_pos c6, if_pos c6]
                      simp only [List.length_cons, ← hde, ← hd, len_drop]
                      congr 1
                      omega
                    · rw [if_neg c6, if_neg c6]
                      simp only
                      have hh : hexL (s.data.toList.drop (i + 3)) = some (Go.Lib.encodeRune (pointF (s.extract (i + 3) s.size)).1, (s.data.toList.drop (i + 3)).drop (pointF (s.extract (i + 3) s.size)).2.toNat) := by rw [hpt, if_neg c6]
                      have hln := hexL_len hh
                      rw [List.drop_drop] at hln ⊢
                      rw [len_drop, len_drop] at hln
                      have hcut : i + 3 + (pointF (s.extract (i + 3) s.size)).2.toNat ≤ s.size := by
                        have hc2 : (pointF (s.extract (i + 3) s.size)).2.toNat ≤ (s.extract (i + 3) s.size).size := by
                          unfold pointF
                          split
                          · simp
                          · split
                            · simp
                            · split
                              · rename_i hz _ _ _ _
                                have hc := indexByte_cases (s.extract (i + 3) s.size) 125
                                unfold cutA
                                unfold cutA at hz
                                rcases hc with hc | ⟨p, hp1, hp2⟩
                                · rw [if_pos hc] at hz
                                  simp at hz
                                · rw [if_neg (by omega), hp1]
                                  simp only [Int.toNat_natCast, ByteArray.size_extract]
                                  rw [ByteArray.size_extract] at hp2
                                  omega
                              · simp
                        rw [ByteArray.size_extract] at hc2
                        omega
                      have := ih g (i + 3 + (pointF (s.extract (i + 3) s.size)).2.toNat) (b ++ Go.Lib.encodeRune (pointF (s.extract (i + 3) s.size)).1) hcut (by omega) (by omega)
                      rw [nums_append, nums_enc] at this
                      exact this
                  · rw [if_neg (by rintro ⟨_, _, h⟩; exact c5 (e123.1 h)), if_neg c5]
                    simp only [List.length_cons, ← hde, ← hd, len_drop]
                    congr 1
                    omega
                · rw [if_neg (fun h => h5 h.1)]
                  have hnil : s.data.toList.drop (i + 1 + 1) = [] := List.eq_nil_of_length_eq_zero (by rw [len_drop]; omega)
                  rw [hnil]
                  simp only [List.length_cons, List.length_nil]
                  congr 1
                  omega
              · rw [if_neg c4, if_neg (by rintro ⟨_, h, _⟩; exact c4 (d117.1 h))]
                simp only [List.length_cons, len_drop]
                congr 1
                omega
          · rw [if_neg (fun h => h1 h.1), if_neg (fun h => h1 (by omega))]
            have hnil : s.data.toList.drop (i + 1) = [] := List.eq_nil_of_length_eq_zero (by rw [len_drop]; omega)
            rw [hnil]
            simp only [escL, List.length_cons, List.length_nil]
            congr 1
            omega
        · rw [if_neg (fun h => c2 (e92.1 h)), if_neg c2]
          have := ih g (i + 1) (b ++ [c]) (by omega) (by omega) (by omega)
          rw [nums_append] at this
          exact this
    · have hnil : s.data.toList.drop i = [] := List.eq_nil_of_length_eq_zero (by rw [len_drop]; omega)
      rw [hnil, textFrom, if_neg hi]
      rfl
theorem read_eq (s : ByteArray) (n : Int) (f : Nat) : ∀ (i : Nat) (l : List S36), i ≤ s.size → s.size ≤ i + f → readFrom s n f i l = lineL s.size n f (s.data.toList.drop i) l := by
  induction f with
  | zero => intro i l h h2; cases s.data.toList.drop i <;> rfl
  | succ f ih =>
    intro i l h h2
    by_cases hi : i < s.size
    · obtain ⟨c, he, hb⟩ := dropc s i hi
      have htw := wlen_tw s i
      have hld : (s.data.toList.drop (i + 1)).length = s.size - (i + 1) := len_drop s (i + 1)
      have hpos : ((s.size - ((s.data.toList.drop (i + 1)).length + 1) : Nat) : Int) = (i : Int) := by rw [hld]; omega
      have hih := ih (i + 1)
      rw [he, readFrom, if_pos hi, lineL, hb, hpos]
      have e32 : ((c.toNat : Nat) : Int) = 32 ↔ c = 32 := ue c 32 (by omega)
      have e9 : ((c.toNat : Nat) : Int) = 9 ↔ c = 9 := ue c 9 (by omega)
      have e35 : ((c.toNat : Nat) : Int) = 35 ↔ c = 35 := ue c 35 (by omega)
      have e44 : ((c.toNat : Nat) : Int) = 44 ↔ c = 44 := ue c 44 (by omega)
      have e33 : ((c.toNat : Nat) : Int) = 33 ↔ c = 33 := ue c 33 (by omega)
      have e34 : ((c.toNat : Nat) : Int) = 34 ↔ c = 34 := ue c 34 (by omega)
      by_cases c1 : c = 32 ∨ c = 9
      · rw [if_pos (c1.imp e32.2 e9.2), if_pos c1]
        exact hih l (by omega) (by omega)
      · rw [if_neg (fun h => c1 (h.imp e32.1 e9.1)), if_neg c1]
        by_cases c2 : c = 35
        · rw [if_pos (e35.2 c2), if_pos c2]
        · rw [if_neg (fun h => c2 (e35.1 h)), if_neg c2]
          by_cases c3 : c = 44
          · rw [if_pos (e44.2 c3), if_pos c3]
            exact hih _ (by omega) (by omega)
          · rw [if_neg (fun h => c3 (e44.1 h)), if_neg c3]
            by_cases c4 : c = 33
            · rw [if_pos (e33.2 c4), if_pos c4]
              exact hih _ (by omega) (by omega)
            · rw [if_neg (fun h => c4 (e33.1 h)), if_neg c4]
              by_cases c5 : c = 34
              · rw [if_pos (e34.2 c5), if_pos c5]
                unfold textF
                have ht := text_eq s i s.size (f + 1) (i + 1) [] (by omega) (by omega) (by omega)
                rw [show nums [] = ([] : List Int) from rfl] at ht
                rw [ht]
                cases hx : textL (f + 1) (s.data.toList.drop (i + 1)) [] with
                | error e =>
                  cases e with
                  | none => simp only; congr 1; omega
                  | some r => rfl
                | ok p =>
                  obtain ⟨t, r⟩ := p
                  have hr := textL_len hx
                  rw [hld] at hr
                  simp only [strOfNums_nums]
                  have hsuf : s.data.toList.drop (s.size - r.length) = r := by
                    have hs := textL_suffix hx
                    obtain ⟨p, hp⟩ := hs
                    have e1 : s.data.toList = s.data.toList.take (i + 1) ++ (p ++ r) := by rw [hp, List.take_append_drop]
                    have e2 : (s.data.toList.take (i + 1) ++ p).length = s.size - r.length := by
                      have := congrArg List.length e1
                      rw [List.length_append, List.length_append, ← Lib.size_eq] at this
                      rw [List.length_append]
                      omega
                    rw [e1, ← List.append_assoc, ← e2, List.drop_left]
                  have := ih (s.size - r.length) (l ++ [⟨2, ⟨t.toArray⟩, n, (i : Int)⟩]) (by omega) (by omega)
                  rw [hsuf] at this
                  exact this
              · rw [if_neg (fun h => c5 (e34.1 h)), if_neg c5]
                have hns : sepB c = false := by
                  have : sep6.data.toList = [32, 9, 44, 33, 34, 35] := rfl
                  unfold sepB
                  rw [this]
                  simp only [List.contains_cons, List.contains_nil, Bool.or_false, Bool.or_eq_false_iff, beq_eq_false_iff_ne]
                  refine ⟨fun h => c1 (.inl h), fun h => c1 (.inr h), c3, c4, c5, c2⟩
                have htc : tw (c :: s.data.toList.drop (i + 1)) = c :: tw (s.data.toList.drop (i + 1)) := by unfold tw; rw [List.takeWhile_cons, hns]; rfl
                have hdc : dw (c :: s.data.toList.drop (i + 1)) = dw (s.data.toList.drop (i + 1)) := by unfold dw; rw [List.dropWhile_cons, hns]; rfl
                have htl := tw_len_take (s.data.toList.drop i)
                have hdl := tw_len_drop (s.data.toList.drop i)
                rw [← htw] at htl hdl
                rw [extract_of, show i + wlen s i - i = wlen s i by omega, htl]
                rw [List.drop_drop] at hdl
                have hwl : 1 ≤ wlen s i ∧ i + wlen s i ≤ s.size := by
                  rw [htw, he, htc]
                  have h1 := congrArg List.length (tw_dw (s.data.toList.drop (i + 1)))
                  rw [List.length_append, hld] at h1
                  simp only [List.length_cons]
                  omega
                rw [ih (i + wlen s i) _ (by omega) (by omega), hdl, he, htc, hdc]
    · have hnil : s.data.toList.drop i = [] := List.eq_nil_of_length_eq_zero (by rw [len_drop]; omega)
      rw [hnil, readFrom, if_neg hi]
      rfl
theorem readF_eq (s : ByteArray) (n : Int) : readF s n = (match lineL s.size n s.size s.data.toList [] with
    | .ok l => .ok (if l.length = 0 then l else l ++ [⟨5, ⟨#[]⟩, n, (s.size : Int)⟩])
    | .error j => .error j) := by
  unfold readF
  rw [read_eq s n s.size 0 [] (by omega) (by omega), List.drop_zero]
  cases lineL s.size n s.size s.data.toList [] <;> rfl
end Go.Proofs.YtfndanccnjggfaaDoor.Pure
/- What is proved: the document's way to read a line is the same one. -/
namespace Go.Proofs.YtfndanccnjggfaaDoor.Pure
open Go.RowKit Go.Proofs.YtfndanccnjggfaaDoor.Q Go.Proofs.YtfndanccnjggfaaDoorW.PrintWords Go.Proofs.YtfndanccnjggfaaDoorW.PrintLast Go.Proofs.YtfndanccnjggfaaDoorW.PrintMore
set_option linter.unusedVariables false
set_option linter.unusedSimpArgs false
def digI (c : Nat) : Int := match dig16 c with | some k => (k : Int) | none => -1
theorem digI_cases (c : Nat) : digI c = if 48 ≤ c ∧ c ≤ 57 then (c : Int) - 48 else if 97 ≤ c ∧ c ≤ 102 then (c : Int) - 87 else if 65 ≤ c ∧ c ≤ 70 then (c : Int) - 55 else -1 := by
  unfold digI dig16
  repeat' split
  all_goals (rename_i h; first | (injection h; omega) | omega | (simp at h; done) | (simp_all; omega) | simp_all)
theorem digI_hex (c : UInt8) : (isHex c = true → digI c.toNat = ((dig16 c.toNat).getD 0 : Nat) ∧ 0 ≤ digI c.toNat) ∧ (isHex c = false → digI c.toNat = -1) := by
  unfold isHex digI
  cases dig16 c.toNat with
  | none => simp
  | some k => simp
theorem rDigit (c : Nat) (hc : c < 256) : Ev (fun k => portcullisref15_digit.f k (c : Int)) (digI c) := by
  rw [digI_cases]
  refine ⟨3, fun k hk => ?_⟩
  obtain ⟨j, rfl⟩ : ∃ j, k = j + 2 + 1 := ⟨k - 3, by omega⟩
  unfold portcullisref15_digit.f
  simp only [portcullisref15_digit.j0, portcullisref15_digit.j1, decide_eq_true_eq, Bool.false_eq_true, if_false]
  repeat' split
  all_goals first | (exfalso; omega) | (congr 1; done) | (congr 1; omega)
def escR (N : Nat) : Option (List UInt8 × List UInt8) → ByteArray × Int
  | none => (⟨#[]⟩, 0)
  | some (x, r') => (⟨x.toArray⟩, ((N - r'.length : Nat) : Int))
theorem hexVal_lt : ∀ (l : List UInt8), l.length ≤ 6 → hexVal l < 16 ^ l.length := by
  have key : ∀ (l : List UInt8) (a n : Nat), a < 16 ^ n → l.foldl hexStep a < 16 ^ (n + l.length) := by
    intro l
    induction l with
    | nil => intro a n h; simpa using h
    | cons c l ih =>
      intro a n h
      rw [List.foldl_cons, List.length_cons, show n + (l.length + 1) = (n + 1) + l.length by omega]
      apply ih
      unfold hexStep
      have hd : (dig16 c.toNat).getD 0 < 16 := by
        cases hq : dig16 c.toNat with
        | none => simp
        | some k => simpa using dig16_lt hq
      rw [Nat.pow_succ]
      omega
  intro l _
  have := key l 0 0 (by simp)
  simpa [hexVal] using this
theorem hexVal_small (l : List UInt8) (h : l.length ≤ 6) : hexVal l < 16777216 := by
  have h1 := hexVal_lt l h
  have h2 : 16 ^ l.length ≤ 16 ^ 6 := Nat.pow_le_pow_right (by omega) h
  omega
theorem take_succ_of {l : List UInt8} {j : Nat} {c : UInt8} {r : List UInt8} (h : l.drop j = c :: r) : l.take (j + 1) = l.take j ++ [c] := by
  have hj : j < l.length := by
    rcases Nat.lt_or_ge j l.length with h1 | h1
    · exact h1
    · rw [List.drop_eq_nil_of_le h1] at h; cases h
  rw [List.take_succ_eq_append_getElem hj]
  congr 2
  have := List.drop_eq_getElem_cons hj
  rw [h] at this
  exact (List.cons.inj this).1.symm
theorem dropWhile_all {p : UInt8 → Bool} : ∀ {l : List UInt8}, l.all p = true → l.dropWhile p = []
  | [], _ => rfl
  | a :: l, h => by
    rw [List.all_cons, Bool.and_eq_true] at h
    rw [List.dropWhile_cons, h.1]
    simp only [if_true]
    exact dropWhile_all h.2
theorem rEsc_j3 (s : ByteArray) (hs : s.size ≤ 140737488355328) (i : Nat) (h3 : 3 ≤ i) (h9 : i ≤ 9) (hi : i ≤ s.size)
    (hall : ((s.data.toList.drop 3).take (i - 3)).all isHex = true)
    (hend : i = s.size ∨ i = 9 ∨ ∃ c r, s.data.toList.drop i = c :: r ∧ isHex c = false) :
    Ev (fun k => portcullisref15_escape.j3 k s ((hexVal ((s.data.toList.drop 3).take (i - 3)) : Nat) : Int) (i : Int)) (escR s.size (hexL (s.data.toList.drop 3))) := by
  obtain ⟨pre, hpre⟩ : ∃ pre, pre = (s.data.toList.drop 3).take (i - 3) := ⟨_, rfl⟩
  rw [← hpre] at hall ⊢
  have hlen : pre.length = i - 3 := by rw [hpre, List.length_take, len_drop]; omega
  have hsplit : s.data.toList.drop 3 = pre ++ s.data.toList.drop i := by
    rw [hpre]
    have := (List.take_append_drop (i - 3) (s.data.toList.drop 3)).symm
    rw [List.drop_drop, show 3 + (i - 3) = i by omega] at this
    exact this
  have hv := hexVal_small pre (by omega)
  refine Ev.of_eq1 (fun k => by rw [portcullisref15_escape.j3]) ?_
  rw [hsplit]
  by_cases c1 : i = s.size
  · have hnil : s.data.toList.drop i = [] := List.eq_nil_of_length_eq_zero (by rw [len_drop]; omega)
    have hx : hexL (pre ++ []) = none := by
      unfold hexL
      have : (pre ++ []).dropWhile isHex = [] := by
        rw [List.append_nil]
        exact dropWhile_all hall
      rw [this]
    rw [hnil, hx]
    simp only [escR, if_pos (show (i : Int) ≥ (s.size : Int) by omega), ite_self]
    exact Ev.const _
  · obtain ⟨c, he, hb⟩ := dropc s i (by omega)
    rw [he]
    have e125 : ((c.toNat : Nat) : Int) = 125 ↔ c = 125 := ue c 125 (by omega)
    simp only [if_neg (show ¬ (i : Int) ≥ (s.size : Int) by omega), if_pos (show (0 : Int) ≤ (i : Int) by omega), if_pos (show (i : Int) < (s.size : Int) by omega), bt_bn, hb]
    cases hc : isHex c with
    | true =>
      have h9' : i = 9 := by
        rcases hend with h | h | ⟨c', r', h1, h2⟩
        · omega
        · exact h
        · rw [he] at h1
          injection h1 with h1 _
          subst h1
          rw [hc] at h2
          cases h2
      have hn : hexL (pre ++ c :: s.data.toList.drop (i + 1)) = none := by
        have htw : ((pre ++ c :: s.data.toList.drop (i + 1)).takeWhile isHex).length = pre.length + (1 + ((s.data.toList.drop (i + 1)).takeWhile isHex).length) := by
          rw [List.takeWhile_append_of_pos (by rw [List.all_eq_true] at hall; exact hall), List.takeWhile_cons, hc]
          simp only [if_true, List.length_append, List.length_cons]
          omega
        unfold hexL
        split
        · rfl
        · rw [if_neg]
          rintro ⟨_, _, h6, _⟩
          omega
      have hne : c ≠ 125 := by
        intro h
        rw [h, show isHex 125 = false from rfl] at hc
        exact Bool.false_ne_true hc
      rw [hn]
      simp only [escR, if_neg (fun h => hne (e125.1 h)), ite_self]
      exact Ev.const _
    | false =>
      obtain ⟨e1, e2⟩ := takeWhile_all c (s.data.toList.drop (i + 1)) hall hc
      have hx : hexL (pre ++ c :: s.data.toList.drop (i + 1)) = if c = 125 ∧ 1 ≤ pre.length ∧ pre.length ≤ 6 ∧ Go.Lib.validRune (hexVal pre : Int) = true then some (Go.Lib.encodeRune (hexVal pre : Int), s.data.toList.drop (i + 1)) else none := by
        unfold hexL
        rw [e1, e2]
      by_cases c3 : i = 3
      · rw [if_neg (show ¬ (c = 125 ∧ 1 ≤ pre.length ∧ pre.length ≤ 6 ∧ Go.Lib.validRune (hexVal pre : Int) = true) from fun h => by have h1 := h.2.1; omega)] at hx
        rw [hx]
        simp only [escR, if_pos (show (i : Int) = 3 by omega)]
        exact Ev.const _
      · simp only [if_neg (show ¬ (i : Int) = 3 by omega)]
        by_cases c4 : c = 125
        · simp only [if_pos (e125.2 c4)]
          have hw : wrap32 ((hexVal pre : Nat) : Int) = ((hexVal pre : Nat) : Int) := w32 (by omega) (by omega)
          have hsc : Ev (fun _ : Nat => portcullisref01_Scalar.f (wrap32 ((hexVal pre : Nat) : Int))) (Go.Lib.validRune ((hexVal pre : Nat) : Int)) := by rw [hw, rScal]; exact Ev.const _
          refine Ev.bind hsc ?_
          cases hvr : Go.Lib.validRune ((hexVal pre : Nat) : Int) with
          | false =>
            rw [if_neg (show ¬ (c = 125 ∧ 1 ≤ pre.length ∧ pre.length ≤ 6 ∧ Go.Lib.validRune (hexVal pre : Int) = true) by rw [hvr]; rintro ⟨_, _, _, h⟩; cases h)] at hx
            rw [hx]
            simp only [Bool.false_eq_true, if_false, escR]
            exact Ev.const _
          | true =>
            rw [if_pos (show (c = 125 ∧ 1 ≤ pre.length ∧ pre.length ≤ 6 ∧ Go.Lib.validRune (hexVal pre : Int) = true) from ⟨c4, by omega, by omega, hvr⟩)] at hx
            rw [hx]
            simp only [if_true, escR]
            have hby : Ev (fun _ : Nat => portcullisref01_Bytes.f (wrap32 ((hexVal pre : Nat) : Int))) (strOfNums (Go.Lib.encodeRuneZ ((hexVal pre : Nat) : Int))) := by rw [hw, rBytes _ hvr]; exact Ev.const _
            refine Ev.bind hby ?_
            rw [w64 (n := (i : Int) + 1) (by omega) (by omega), ← nums_enc, strOfNums_nums, len_drop, show ((s.size - (s.size - (i + 1)) : Nat) : Int) = (i : Int) + 1 by omega]
            exact Ev.const _
        · rw [if_neg (show ¬ (c = 125 ∧ 1 ≤ pre.length ∧ pre.length ≤ 6 ∧ Go.Lib.validRune (hexVal pre : Int) = true) from fun h => c4 h.1)] at hx
          rw [hx]
          simp only [if_neg (fun h => c4 (e125.1 h)), escR]
          exact Ev.const _
theorem rEsc_l0 (s : ByteArray) (hs : s.size ≤ 140737488355328) (f : Nat) : ∀ i : Nat, 3 ≤ i → i + f = 9 → i ≤ s.size →
    ((s.data.toList.drop 3).take (i - 3)).all isHex = true →
    Ev (fun k => portcullisref15_escape.l0 k s ((hexVal ((s.data.toList.drop 3).take (i - 3)) : Nat) : Int) (i : Int)) (escR s.size (hexL (s.data.toList.drop 3))) := by
  induction f with
  | zero =>
    intro i h3 h9 hi hall
    refine Ev.of_eq1 (fun k => by rw [portcullisref15_escape.l0]) ?_
    simp only [if_neg (show ¬ (i : Int) < 9 by omega), ite_self]
    exact rEsc_j3 s hs i h3 (by omega) hi hall (.inr (.inl (by omega)))
  | succ f ih =>
    intro i h3 h9 hi hall
    refine Ev.of_eq1 (fun k => by rw [portcullisref15_escape.l0]) ?_
    by_cases c1 : i < s.size
    · obtain ⟨c, he, hb⟩ := dropc s i c1
      have hclt := c.toNat_lt
      have hd := rDigit c.toNat (by omega)
      obtain ⟨d1, d2⟩ := digI_hex c
      simp only [if_pos (show (i : Int) < (s.size : Int) by omega), if_pos (show (i : Int) < 9 by omega), if_pos (show (0 : Int) ≤ (i : Int) by omega), bt_bn, hb]
      refine Ev.bind hd ?_
      cases hc : isHex c with
      | true =>
        obtain ⟨g1, g2⟩ := d1 hc
        simp only [if_pos (show digI c.toNat ≥ 0 from g2)]
        refine Ev.bind hd ?_
        have ht : (s.data.toList.drop 3).take (i + 1 - 3) = (s.data.toList.drop 3).take (i - 3) ++ [c] := by
          rw [show i + 1 - 3 = (i - 3) + 1 by omega]
          refine take_succ_of (r := s.data.toList.drop (i + 1)) ?_
          rw [List.drop_drop, show 3 + (i - 3) = i by omega]
          exact he
        have hlen : ((s.data.toList.drop 3).take (i - 3)).length ≤ 6 := by rw [List.length_take]; omega
        have hv := hexVal_small _ hlen
        have := ih (i + 1) (by omega) (by omega) (by omega) (by rw [ht, List.all_append, hall]; simp [hc])
        rw [ht] at this
        have hval : ((hexVal ((s.data.toList.drop 3).take (i - 3) ++ [c]) : Nat) : Int) = 16 * ((hexVal ((s.data.toList.drop 3).take (i - 3)) : Nat) : Int) + digI c.toNat := by
          rw [g1]
          unfold hexVal
          rw [List.foldl_append]
          simp only [List.foldl_cons, List.foldl_nil, hexStep]
          omega
        have hdl : digI c.toNat < 16 := by rw [digI_cases]; repeat' split; all_goals omega
        rw [w64 (n := 16 * _) (by omega) (by omega), w64 (n := 16 * _ + _) (by omega) (by omega), ← hval, show wrap64 ((i : Int) + 1) = ((i + 1 : Nat) : Int) from by rw [w64 (by omega) (by omega)]; omega]
        exact this
      | false =>
        simp only [if_neg (show ¬ digI c.toNat ≥ 0 by rw [d2 hc]; decide)]
        exact rEsc_j3 s hs i h3 (by omega) hi hall (.inr (.inr ⟨c, _, he, hc⟩))
    · simp only [if_neg (show ¬ (i : Int) < (s.size : Int) by omega)]
      exact rEsc_j3 s hs i h3 (by omega) hi hall (.inl (by omega))
theorem hexL_short (r : List UInt8) (h : r.length ≤ 1) : hexL r = none := by
  unfold hexL
  have hl := congrArg List.length (List.takeWhile_append_dropWhile (p := isHex) (l := r))
  rw [List.length_append] at hl
  split
  · rfl
  · rename_i c r' he
    rw [if_neg]
    rintro ⟨_, h1, _⟩
    rw [he, List.length_cons] at hl
    omega
theorem rEsc (s : ByteArray) (hs : s.size ≤ 140737488355328) (r : List UInt8) (c0 : UInt8) (hl : s.data.toList = c0 :: r) : Ev (fun k => portcullisref15_escape.f k s) (escR s.size (escL r)) := by
  have hsz : s.size = r.length + 1 := by rw [Lib.size_eq, hl]; rfl
  have hdr : s.data.toList.drop 1 = r := by rw [hl]; rfl
  have stop : Ev (fun k => portcullisref15_escape.j1 k s true) ((⟨#[]⟩ : ByteArray), (0 : Int)) := by
    refine Ev.of_eq1 (fun k => by rw [portcullisref15_escape.j1]) ?_
    simp only [if_true]
    exact Ev.const _
  unfold portcullisref15_escape.f
  cases r with
  | nil =>
    simp only [List.length_nil] at hsz
    simp only [if_neg (show ¬ (s.size : Int) ≥ 2 by omega), escL, escR]
    refine Ev.of_eq1 (fun k => by rw [portcullisref15_escape.j0]) ?_
    simp only [Bool.false_eq_true, if_false, if_pos (show (s.size : Int) < 5 by omega)]
    exact stop
  | cons d r1 =>
    simp only [List.length_cons] at hsz
    have hb1 : bt s 1 = (d.toNat : Int) := by
      obtain ⟨c', he, hb⟩ := dropc s 1 (by omega)
      rw [hdr] at he
      injection he with he _
      subst he
      rw [← hb, ← bt_bn]
      rfl
    have d34 : ((d.toNat : Nat) : Int) = 34 ↔ d = 34 := ue d 34 (by omega)
    have d92 : ((d.toNat : Nat) : Int) = 92 ↔ d = 92 := ue d 92 (by omega)
    have d117 : ((d.toNat : Nat) : Int) = 117 ↔ d = 117 := ue d 117 (by omega)
    simp only [if_pos (show (s.size : Int) ≥ 2 by omega), if_pos (show (1 : Int) < (s.size : Int) by omega), hb1]
    by_cases c1 : d = 34 ∨ d = 92
    · have hj : Ev (fun k => portcullisref15_escape.j0 k s true) (escR s.size (some ([d], r1))) := by
        refine Ev.of_eq1 (fun k => by rw [portcullisref15_escape.j0]) ?_
        have hx : s.extract 1 2 = ⟨[d].toArray⟩ := by rw [extract_of, hdr]; rfl
        simp only [if_true, if_pos (show (1 : Int) ≤ 2 by decide), if_pos (show (2 : Int) ≤ (s.size : Int) by omega), escR, hx]
        rw [show ((s.size - r1.length : Nat) : Int) = 2 by omega]
        exact Ev.const _
      rw [escL_cons, if_pos c1]
      by_cases c2 : d = 34
      · simp only [if_pos (d34.2 c2)]
        exact hj
      · simp only [if_neg (fun h => c2 (d34.1 h))]
        have : ((d.toNat : Int) == 92) = true := by rw [beq_iff_eq]; exact d92.2 (c1.resolve_left c2)
        rw [this]
        exact hj
    · have g1 : ¬ (d.toNat : Int) = 34 := fun h => c1 (.inl (d34.1 h))
      have g2 : ((d.toNat : Int) == 92) = false := by rw [beq_eq_false_iff_ne]; exact fun h => c1 (.inr (d92.1 h))
      simp only [if_neg g1, g2]
      refine Ev.of_eq1 (fun k => by rw [portcullisref15_escape.j0]) ?_
      simp only [Bool.false_eq_true, if_false, if_pos (show (1 : Int) < (s.size : Int) by omega), hb1]
      by_cases c5 : s.size < 5
      · simp only [if_pos (show (s.size : Int) < 5 by omega)]
        have hn : escL (d :: r1) = none := by
          rw [escL_cons, if_neg c1]
          split
          · split
            · rfl
            · rename_i e r2
              split
              · exact hexL_short _ (by simp only [List.length_cons] at hsz; omega)
              · rfl
          · rfl
        rw [hn]
        exact stop
      · simp only [if_neg (show ¬ (s.size : Int) < 5 by omega)]
        by_cases c6 : d = 117
        · rw [escL_cons, if_neg c1, if_pos c6]
          simp only [if_pos (d117.2 c6), if_pos (show (2 : Int) < (s.size : Int) by omega)]
          cases r1 with
          | nil => simp only [List.length_nil] at hsz; omega
          | cons e r2 =>
            have hb2 : bt s 2 = (e.toNat : Int) := by
              obtain ⟨c', he, hb⟩ := dropc s 2 (by omega)
              rw [hl] at he
              simp only [List.drop_succ_cons, List.drop_zero] at he
              injection he with he _
              subst he
              rw [← hb, ← bt_bn]
              rfl
            have e123 : ((e.toNat : Nat) : Int) = 123 ↔ e = 123 := ue e 123 (by omega)
            rw [hb2]
            simp only
            by_cases c7 : e = 123
            · rw [if_pos c7, (show ((e.toNat : Int) != 123) = false by rw [bne_eq_false_iff_eq]; exact e123.2 c7)]
              refine Ev.of_eq1 (fun k => by rw [portcullisref15_escape.j1]) ?_
              simp only [Bool.false_eq_true, if_false]
              have hd3 : s.data.toList.drop 3 = r2 := by rw [hl]; rfl
              have := rEsc_l0 s hs 6 3 (by omega) (by omega) (by omega) (by rfl)
              rw [hd3] at this
              exact this
            · rw [if_neg c7, (show ((e.toNat : Int) != 123) = true by rw [bne_iff_ne]; exact fun h => c7 (e123.1 h))]
              exact stop
        · rw [escL_cons, if_neg c1, if_neg c6]
          simp only [if_neg (fun h => c6 (d117.1 h))]
          exact stop
def txtR (N : Nat) : Except (Option (List UInt8)) (List UInt8 × List UInt8) → ByteArray × Int × Int
  | .ok (t, r) => (⟨t.toArray⟩, ((N - r.length : Nat) : Int), 0)
  | .error none => (⟨#[]⟩, 0, 0)
  | .error (some r) => (⟨#[]⟩, 0, ((N - r.length : Nat) : Int))
theorem append_mk (a b : List UInt8) : (⟨a.toArray⟩ : ByteArray) ++ ⟨b.toArray⟩ = ⟨(a ++ b).toArray⟩ := by
  apply ByteArray.ext
  simp
theorem extract1 (s : ByteArray) (i : Nat) (c : UInt8) (r : List UInt8) (h : s.data.toList.drop i = c :: r) : s.extract i (i + 1) = ⟨[c].toArray⟩ := by
  rw [extract_of, h, show i + 1 - i = 1 by omega]
  rfl
theorem enc_le (x r r' : List UInt8) (h : escL r = some (x, r')) : x.length ≤ 4 := by
  unfold escL at h
  split at h
  · cases h
  · split at h
    · injection h with h; injection h with h _; subst h; simp
    · split at h
      · split at h
        · cases h
        · split at h
          · unfold hexL at h
            split at h
            · cases h
            · split at h
              · injection h with h; injection h with h _; subst h; exact (enc_len _).2
              · cases h
          · cases h
      · cases h
theorem rText_l0 (s : ByteArray) (hs : s.size ≤ 1048576) (f : Nat) : ∀ (g i : Nat) (b : List UInt8), 1 ≤ i → i ≤ s.size → s.size < i + f → s.size < i + g → b.length ≤ 4 * i →
    Ev (fun k => portcullisref15_text.l0 k s (⟨b.toArray⟩ : ByteArray) (i : Int)) (txtR s.size (textL g (s.data.toList.drop i) b)) := by
  induction f with
  | zero => intro g i b h1 h h2; omega
  | succ f ih =>
    intro g i b h1 h h2 h3 hbl
    obtain ⟨g, rfl⟩ : ∃ g', g = g' + 1 := ⟨g - 1, by omega⟩
    refine Ev.of_eq1 (fun k => by rw [portcullisref15_text.l0]) ?_
    have hbs : (⟨b.toArray⟩ : ByteArray).size = b.length := by simp [ByteArray.size]
    by_cases hi : i < s.size
    · obtain ⟨c, he, hb⟩ := dropc s i hi
      have e34 : ((c.toNat : Nat) : Int) = 34 ↔ c = 34 := ue c 34 (by omega)
      have e92 : ((c.toNat : Nat) : Int) = 92 ↔ c = 92 := ue c 92 (by omega)
      have hw1 : wrap64 ((i : Int) + 1) = ((i + 1 : Nat) : Int) := by rw [w64 (by omega) (by omega)]; omega
      rw [he, textL]
      simp only [if_pos (show (i : Int) < (s.size : Int) by omega), if_pos (show (0 : Int) ≤ (i : Int) by omega), bt_bn, hb, hw1]
      by_cases c1 : c = 34
      · simp only [if_pos (e34.2 c1), if_pos c1, txtR, len_drop]
        rw [show ((s.size - (s.size - (i + 1)) : Nat) : Int) = ((i + 1 : Nat) : Int) by omega]
        exact Ev.const _
      · simp only [if_neg (fun h => c1 (e34.1 h)), if_neg c1]
        by_cases c2 : c = 92
        · simp only [if_pos (e92.2 c2), if_pos c2, if_pos (show (i : Int) ≤ (s.size : Int) by omega), Int.toNat_natCast]
          have hx := rEsc (s.extract i s.size) (by rw [ByteArray.size_extract]; omega) (s.data.toList.drop (i + 1)) c (by rw [drop_extract, he])
          have hxs : (s.extract i s.size).size = s.size - i := by rw [ByteArray.size_extract]; omega
          rw [hxs] at hx
          cases hq : escL (s.data.toList.drop (i + 1)) with
          | none =>
            rw [hq] at hx
            refine Ev.bind hx ?_
            simp only [escR, if_true, txtR, List.length_cons, len_drop]
            rw [show ((s.size - (s.size - (i + 1) + 1) : Nat) : Int) = (i : Int) by omega]
            exact Ev.const _
          | some p =>
            obtain ⟨x, r'⟩ := p
            have hl1 := escL_len hq
            have hl2 := enc_le _ _ _ hq
            obtain ⟨p, hp⟩ := escL_suffix hq
            rw [len_drop] at hl1
            have hxz : (⟨x.toArray⟩ : ByteArray).size = x.length := by simp [ByteArray.size]
            obtain ⟨m, hm⟩ : ∃ m : Int, m = ((s.size - i - r'.length : Nat) : Int) := ⟨_, rfl⟩
            have hx2 : Ev (fun k => portcullisref15_escape.f k (s.extract i s.size)) ((⟨x.toArray⟩ : ByteArray), m) := by rw [hq] at hx; rw [hm]; exact hx
            refine Ev.bind hx2 ?_
            simp only [if_neg (show ¬ m = 0 by omega), if_pos (show (⟨b.toArray⟩ : ByteArray).size + (⟨x.toArray⟩ : ByteArray).size ≤ 9223372036854775807 by omega), append_mk]
            rw [show wrap64 ((i : Int) + m) = ((s.size - r'.length : Nat) : Int) from by rw [w64 (by omega) (by omega)]; omega]
            have hdrop : s.data.toList.drop (s.size - r'.length) = r' := by
              have e1 : s.data.toList = (s.data.toList.take (i + 1) ++ p) ++ r' := by rw [List.append_assoc, hp, List.take_append_drop]
              have e2 : (s.data.toList.take (i + 1) ++ p).length = s.size - r'.length := by
                have := congrArg List.length e1
                rw [List.length_append, ← Lib.size_eq] at this
                omega
              rw [e1, ← e2, List.drop_left]
            have := ih g (s.size - r'.length) (b ++ x) (by omega) (by omega) (by omega) (by omega) (by rw [List.length_append]; omega)
            rw [hdrop] at this
            exact this
        · simp only [if_neg (fun h => c2 (e92.1 h)), if_neg c2, if_pos (show (i : Int) ≤ ((i + 1 : Nat) : Int) by omega), if_pos (show ((i + 1 : Nat) : Int) ≤ (s.size : Int) by omega), Int.toNat_natCast, extract1 s i c _ he, append_mk]
          have hsm : (⟨b.toArray⟩ : ByteArray).size + (⟨#[c]⟩ : ByteArray).size ≤ 9223372036854775807 := by rw [hbs, show (⟨#[c]⟩ : ByteArray).size = 1 from rfl]; omega
          simp only [if_pos hsm]
          exact ih g (i + 1) (b ++ [c]) (by omega) (by omega) (by omega) (by omega) (by rw [List.length_append, List.length_cons, List.length_nil]; omega)
    · have hnil : s.data.toList.drop i = [] := List.eq_nil_of_length_eq_zero (by rw [len_drop]; omega)
      simp only [if_neg (show ¬ (i : Int) < (s.size : Int) by omega), hnil, textL, txtR]
      exact Ev.const _
theorem rText (s : ByteArray) (hs : s.size ≤ 1048576) (h1 : 1 ≤ s.size) (g : Nat) (hg : s.size ≤ g) : Ev (fun k => portcullisref15_text.f k s) (txtR s.size (textL g (s.data.toList.drop 1) [])) := by
  unfold portcullisref15_text.f
  exact rText_l0 s hs s.size g 1 [] (by omega) h1 (by omega) (by omega) (by simp)
theorem textL_err : ∀ {f : Nat} {r b r' : List UInt8}, textL f r b = .error (some r') → r'.length ≤ r.length ∧ 1 ≤ r'.length := by
  intro f
  induction f with
  | zero => intro r b r' h; simp [textL] at h
  | succ f ih =>
    intro r b r' h
    cases r with
    | nil => simp [textL] at h
    | cons c r =>
      unfold textL at h
      split at h
      · cases h
      · split at h
        · split at h
          · injection h with h
            injection h with h
            subst h
            simp
          · rename_i x r1 he
            have h1 := escL_len he
            have h2 := ih h
            simp only [List.length_cons]
            omega
        · have h2 := ih h
          simp only [List.length_cons]
          omega
theorem rEnds (c : UInt8) : portcullisref15_ends.f (c.toNat : Int) = some (sepB c) := by
  have e32 : ((c.toNat : Nat) : Int) = 32 ↔ c = 32 := ue c 32 (by omega)
  have e9 : ((c.toNat : Nat) : Int) = 9 ↔ c = 9 := ue c 9 (by omega)
  have e35 : ((c.toNat : Nat) : Int) = 35 ↔ c = 35 := ue c 35 (by omega)
  have e44 : ((c.toNat : Nat) : Int) = 44 ↔ c = 44 := ue c 44 (by omega)
  have e33 : ((c.toNat : Nat) : Int) = 33 ↔ c = 33 := ue c 33 (by omega)
  have e34 : ((c.toNat : Nat) : Int) = 34 ↔ c = 34 := ue c 34 (by omega)
  have h6 : sep6.data.toList = [32, 9, 44, 33, 34, 35] := rfl
  unfold portcullisref15_ends.f sepB
  rw [h6]
  simp only [List.contains_cons, List.contains_nil, Bool.or_false, e32, e9, e44, e33, e34]
  have hb : ((c.toNat : Int) == 35) = (c == 35) := by rw [Bool.eq_iff_iff, beq_iff_eq, beq_iff_eq]; exact e35
  rw [hb]
  by_cases c1 : c = 32
  · subst c1; rfl
  by_cases c2 : c = 9
  · subst c2; rfl
  by_cases c3 : c = 44
  · subst c3; rfl
  by_cases c4 : c = 33
  · subst c4; rfl
  by_cases c5 : c = 34
  · subst c5; rfl
  have f1 : (c == 32) = false := beq_eq_false_iff_ne.2 c1
  have f2 : (c == 9) = false := beq_eq_false_iff_ne.2 c2
  have f3 : (c == 44) = false := beq_eq_false_iff_ne.2 c3
  have f4 : (c == 33) = false := beq_eq_false_iff_ne.2 c4
  have f5 : (c == 34) = false := beq_eq_false_iff_ne.2 c5
  simp only [if_neg c1, if_neg c2, if_neg c3, if_neg c4, if_neg c5, f1, f2, f3, f4, f5, Bool.false_or]
def finL (N : Nat) (n : Int) : Except Nat (List S36) → List S36 × Int × Int × Int
  | .ok l => if l.length = 0 then (l, 0, 0, 0) else (l ++ [⟨5, ⟨#[]⟩, n, (N : Int)⟩], 0, 0, 0)
  | .error j => ([], 151, n, (j : Int))
/-- A word, byte by byte. -/
theorem rWord_l1 (s : ByteArray) (hs : s.size ≤ 1048576) (n at_ : Int) (l : List S36) (hl : l.length ≤ 1048576) (v : List S36 × Int × Int × Int) (f : Nat) : ∀ (i : Nat) (b : List UInt8), i ≤ s.size → s.size ≤ i + f → b.length ≤ i →
    Ev (fun k => portcullisref15_line.l0 k s n (l ++ [⟨1, ⟨(b ++ tw (s.data.toList.drop i)).toArray⟩, n, at_⟩]) ((i + (tw (s.data.toList.drop i)).length : Nat) : Int)) v →
    Ev (fun k => portcullisref15_line.l1 k s n l (i : Int) 1 (⟨b.toArray⟩ : ByteArray) n at_) v := by
  induction f with
  | zero =>
    intro i b h h2 hb hk
    have hnil : s.data.toList.drop i = [] := List.eq_nil_of_length_eq_zero (by rw [len_drop]; omega)
    rw [hnil] at hk
    simp only [tw, List.takeWhile_nil, List.append_nil, List.length_nil, Nat.add_zero] at hk
    refine Ev.of_eq1 (fun k => by rw [portcullisref15_line.l1]) ?_
    simp only [if_neg (show ¬ (i : Int) < (s.size : Int) by omega), if_pos (show l.length < 3518437208883 by omega)]
    exact hk
  | succ f ih =>
    intro i b h h2 hb hk
    refine Ev.of_eq1 (fun k => by rw [portcullisref15_line.l1]) ?_
    by_cases hi : i < s.size
    · obtain ⟨c, he, hbc⟩ := dropc s i hi
      have hw1 : wrap64 ((i : Int) + 1) = ((i + 1 : Nat) : Int) := by rw [w64 (by omega) (by omega)]; omega
      simp only [if_pos (show (i : Int) < (s.size : Int) by omega), if_pos (show (0 : Int) ≤ (i : Int) by omega), bt_bn, hbc, rEnds, Option.bind_some, hw1]
      rw [he] at hk
      cases hc : sepB c with
      | true =>
        have ht : tw (c :: s.data.toList.drop (i + 1)) = [] := by unfold tw; rw [List.takeWhile_cons, hc]; rfl
        rw [ht] at hk
        simp only [List.append_nil, List.length_nil, Nat.add_zero] at hk
        simp only [if_true, if_pos (show l.length < 3518437208883 by omega)]
        exact hk
      | false =>
        have ht : tw (c :: s.data.toList.drop (i + 1)) = c :: tw (s.data.toList.drop (i + 1)) := by unfold tw; rw [List.takeWhile_cons, hc]; rfl
        rw [ht] at hk
        simp only [Bool.false_eq_true, if_false, if_pos (show (i : Int) ≤ ((i + 1 : Nat) : Int) by omega), if_pos (show ((i + 1 : Nat) : Int) ≤ (s.size : Int) by omega), Int.toNat_natCast, extract1 s i c _ he, append_mk]
        have hsm : (⟨b.toArray⟩ : ByteArray).size + (⟨#[c]⟩ : ByteArray).size ≤ 9223372036854775807 := by rw [show (⟨b.toArray⟩ : ByteArray).size = b.length by simp [ByteArray.size], show (⟨#[c]⟩ : ByteArray).size = 1 from rfl]; omega
        simp only [if_pos hsm]
        refine ih (i + 1) (b ++ [c]) (by omega) (by omega) (by rw [List.length_append, List.length_cons, List.length_nil]; omega) ?_
        rw [List.append_assoc, List.singleton_append]
        rw [List.length_cons, show i + ((tw (s.data.toList.drop (i + 1))).length + 1) = i + 1 + (tw (s.data.toList.drop (i + 1))).length by omega] at hk
        exact hk
    · have hnil : s.data.toList.drop i = [] := List.eq_nil_of_length_eq_zero (by rw [len_drop]; omega)
      rw [hnil] at hk
      simp only [tw, List.takeWhile_nil, List.append_nil, List.length_nil, Nat.add_zero] at hk
      simp only [if_neg (show ¬ (i : Int) < (s.size : Int) by omega), if_pos (show l.length < 3518437208883 by omega)]
      exact hk
theorem rLine_l0 (s : ByteArray) (hs : s.size ≤ 1048576) (n : Int) (f : Nat) : ∀ (i : Nat) (l : List S36), i ≤ s.size → s.size ≤ i + f → l.length ≤ i →
    Ev (fun k => portcullisref15_line.l0 k s n l (i : Int)) (finL s.size n (lineL s.size n f (s.data.toList.drop i) l)) := by
  have done : ∀ (i : Int) (l : List S36), l.length ≤ 1048576 → Ev (fun k => portcullisref15_line.j1 k s n l i false) (finL s.size n (.ok l)) := by
    intro i l hl
    refine Ev.of_eq1 (fun k => by rw [portcullisref15_line.j1]) ?_
    simp only [Bool.false_eq_true, if_false, finL]
    by_cases c1 : l.length = 0
    · simp only [if_pos c1, if_neg (show ¬ (l.length : Int) > 0 by omega)]
      exact Ev.const _
    · simp only [if_neg c1, if_pos (show (l.length : Int) > 0 by omega), if_pos (show l.length < 3518437208883 by omega)]
      exact Ev.const _
  have atend : ∀ (i : Nat) (l : List S36), ¬ i < s.size → l.length ≤ 1048576 → Ev (fun k => portcullisref15_line.l0 k s n l (i : Int)) (finL s.size n (.ok l)) := by
    intro i l hi hl
    refine Ev.of_eq1 (fun k => by rw [portcullisref15_line.l0, if_neg (show ¬ (i : Int) < (s.size : Int) by omega)]) ?_
    exact done _ l hl
  induction f with
  | zero =>
    intro i l h h2 hl
    have hnil : s.data.toList.drop i = [] := List.eq_nil_of_length_eq_zero (by rw [len_drop]; omega)
    rw [hnil]
    exact atend i l (by omega) (by omega)
  | succ f ih =>
    intro i l h h2 hl
    by_cases hi : i < s.size
    · obtain ⟨c, he, hb⟩ := dropc s i hi
      have hld : (s.data.toList.drop (i + 1)).length = s.size - (i + 1) := len_drop s (i + 1)
      have hpos : ((s.size - ((s.data.toList.drop (i + 1)).length + 1) : Nat) : Int) = (i : Int) := by rw [hld]; omega
      have hposN : (s.size - ((s.data.toList.drop (i + 1)).length + 1) : Nat) = i := by rw [hld]; omega
      have hw1 : wrap64 ((i : Int) + 1) = ((i + 1 : Nat) : Int) := by rw [w64 (by omega) (by omega)]; omega
      have e32 : ((c.toNat : Nat) : Int) = 32 ↔ c = 32 := ue c 32 (by omega)
      have e9 : ((c.toNat : Nat) : Int) = 9 ↔ c = 9 := ue c 9 (by omega)
      have e35 : ((c.toNat : Nat) : Int) = 35 ↔ c = 35 := ue c 35 (by omega)
      have e44 : ((c.toNat : Nat) : Int) = 44 ↔ c = 44 := ue c 44 (by omega)
      have e33 : ((c.toNat : Nat) : Int) = 33 ↔ c = 33 := ue c 33 (by omega)
      have e34 : ((c.toNat : Nat) : Int) = 34 ↔ c = 34 := ue c 34 (by omega)
      have hih := ih (i + 1)
      refine Ev.of_eq1 (fun k => by rw [portcullisref15_line.l0]) ?_
      simp only [if_pos (show (i : Int) < (s.size : Int) by omega), if_pos (show (0 : Int) ≤ (i : Int) by omega), bt_bn, hb]
      by_cases c2 : c = 35
      · rw [(show ((c.toNat : Int) != 35) = false by rw [bne_eq_false_iff_eq]; exact e35.2 c2)]
        have : lineL s.size n (f + 1) (s.data.toList.drop i) l = .ok l := by
          rw [he, lineL, if_neg (by rintro (h | h) <;> rw [c2] at h <;> cases h), if_pos c2]
        rw [this]
        exact done _ l (by omega)
      · rw [(show ((c.toNat : Int) != 35) = true by rw [bne_iff_ne]; exact fun h => c2 (e35.1 h))]
        refine Ev.of_eq1 (fun k => by rw [portcullisref15_line.j1]) ?_
        simp only [if_true, if_pos (show (i : Int) < (s.size : Int) by omega), if_pos (show (0 : Int) ≤ (i : Int) by omega), bt_bn, hb]
        rw [he, lineL, hpos]
        by_cases c1 : c = 32 ∨ c = 9
        · rw [if_pos c1]
          have hj : Ev (fun k => portcullisref15_line.j2 k s n l (i : Int) true 0 (⟨#[]⟩ : ByteArray) n (i : Int)) (finL s.size n (lineL s.size n f (s.data.toList.drop (i + 1)) l)) := by
            refine Ev.of_eq1 (fun k => by rw [portcullisref15_line.j2]) ?_
            simp only [if_true, hw1]
            exact hih l (by omega) (by omega) (by omega)
          by_cases c32 : c = 32
          · simp only [if_pos (e32.2 c32)]
            exact hj
          · simp only [if_neg (fun h => c32 (e32.1 h))]
            rw [(show ((c.toNat : Int) == 9) = true by rw [beq_iff_eq]; exact e9.2 (c1.resolve_left c32))]
            exact hj
        · have g32 : ¬ (c.toNat : Int) = 32 := fun h => c1 (.inl (e32.1 h))
          have g9 : ((c.toNat : Int) == 9) = false := by rw [beq_eq_false_iff_ne]; exact fun h => c1 (.inr (e9.1 h))
          simp only [if_neg c1, if_neg c2, if_neg g32, g9]
          refine Ev.of_eq1 (fun k => by rw [portcullisref15_line.j2]) ?_
          simp only [Bool.false_eq_true, if_false, if_pos (show (i : Int) < (s.size : Int) by omega), if_pos (show (0 : Int) ≤ (i : Int) by omega), bt_bn, hb, hw1, if_pos (show l.length < 3518437208883 by omega)]
          by_cases c3 : c = 44
          · simp only [if_pos (e44.2 c3), if_pos c3]
            exact hih _ (by omega) (by omega) (by rw [List.length_append, List.length_cons, List.length_nil]; omega)
          · simp only [if_neg (fun h => c3 (e44.1 h)), if_neg c3]
            by_cases c4 : c = 33
            · simp only [if_pos (e33.2 c4), if_pos c4]
              exact hih _ (by omega) (by omega) (by rw [List.length_append, List.length_cons, List.length_nil]; omega)
            · simp only [if_neg (fun h => c4 (e33.1 h)), if_neg c4]
              by_cases c5 : c = 34
              · simp only [if_pos (e34.2 c5), if_pos c5, if_pos (show (i : Int) ≤ (s.size : Int) by omega), Int.toNat_natCast]
                have hxs : (s.extract i s.size).size = s.size - i := by rw [ByteArray.size_extract]; omega
                have ht := rText (s.extract i s.size) (by omega) (by omega) (f + 1) (by omega)
                rw [drop_extract, List.drop_drop, hxs] at ht
                cases hx : textL (f + 1) (s.data.toList.drop (i + 1)) [] with
                | error e =>
                  rw [hx] at ht
                  refine Ev.bind ht ?_
                  cases e with
                  | none =>
                    simp only [txtR, if_true, finL, hposN]
                    rw [w64 (n := (i : Int) + 0) (by omega) (by omega), Int.add_zero]
                    exact Ev.const _
                  | some r =>
                    obtain ⟨hr1, hr2⟩ := textL_err hx
                    rw [hld] at hr1
                    simp only [txtR, if_true, finL]
                    rw [show wrap64 ((i : Int) + ((s.size - i - r.length : Nat) : Int)) = ((s.size - r.length : Nat) : Int) from by rw [w64 (by omega) (by omega)]; omega]
                    exact Ev.const _
                | ok p =>
                  obtain ⟨t, r⟩ := p
                  have hr := textL_len hx
                  obtain ⟨p, hp⟩ := textL_suffix hx
                  rw [hld] at hr
                  have hdrop : s.data.toList.drop (s.size - r.length) = r := by
                    have e1 : s.data.toList = (s.data.toList.take (i + 1) ++ p) ++ r := by rw [List.append_assoc, hp, List.take_append_drop]
                    have e2 : (s.data.toList.take (i + 1) ++ p).length = s.size - r.length := by
                      have := congrArg List.length e1
                      rw [List.length_append, ← Lib.size_eq] at this
                      omega
                    rw [e1, ← e2, List.drop_left]
                  obtain ⟨m, hm⟩ : ∃ m : Int, m = ((s.size - i - r.length : Nat) : Int) := ⟨_, rfl⟩
                  have ht2 : Ev (fun k => portcullisref15_text.f k (s.extract i s.size)) ((⟨t.toArray⟩ : ByteArray), m, (0 : Int)) := by rw [hx] at ht; rw [hm]; exact ht
                  refine Ev.bind ht2 ?_
                  simp only [if_neg (show ¬ m = 0 by omega)]
                  rw [show wrap64 ((i : Int) + m) = ((s.size - r.length : Nat) : Int) from by rw [w64 (by omega) (by omega)]; omega]
                  have := ih (s.size - r.length) (l ++ [⟨2, ⟨t.toArray⟩, n, (i : Int)⟩]) (by omega) (by omega) (by rw [List.length_append, List.length_cons, List.length_nil]; omega)
                  rw [hdrop] at this
                  exact this
              · simp only [if_neg (fun h => c5 (e34.1 h)), if_neg c5]
                have hns : sepB c = false := by
                  have : sep6.data.toList = [32, 9, 44, 33, 34, 35] := rfl
                  unfold sepB
                  rw [this]
                  simp only [List.contains_cons, List.contains_nil, Bool.or_false, Bool.or_eq_false_iff, beq_eq_false_iff_ne]
                  refine ⟨fun h => c1 (.inl h), fun h => c1 (.inr h), c3, c4, c5, c2⟩
                have htc : tw (c :: s.data.toList.drop (i + 1)) = c :: tw (s.data.toList.drop (i + 1)) := by unfold tw; rw [List.takeWhile_cons, hns]; rfl
                have hdc : dw (c :: s.data.toList.drop (i + 1)) = dw (s.data.toList.drop (i + 1)) := by unfold dw; rw [List.dropWhile_cons, hns]; rfl
                have hlen : (tw (s.data.toList.drop (i + 1))).length ≤ s.size - (i + 1) := by
                  have h1 := congrArg List.length (tw_dw (s.data.toList.drop (i + 1)))
                  rw [List.length_append, hld] at h1
                  omega
                refine rWord_l1 s hs n (i : Int) l (by omega) _ (f + 1) i [] (by omega) (by omega) (by simp) ?_
                rw [he, htc, List.nil_append, List.length_cons]
                have hd2 : s.data.toList.drop (i + ((tw (s.data.toList.drop (i + 1))).length + 1)) = dw (s.data.toList.drop (i + 1)) := by
                  rw [← tw_len_drop (s.data.toList.drop (i + 1)), List.drop_drop]
                  congr 1
                  omega
                have := ih (i + ((tw (s.data.toList.drop (i + 1))).length + 1)) (l ++ [⟨1, ⟨(c :: tw (s.data.toList.drop (i + 1))).toArray⟩, n, (i : Int)⟩]) (by omega) (by omega) (by rw [List.length_append, List.length_cons, List.length_nil]; omega)
                rw [hd2] at this
                exact this
    · have hnil : s.data.toList.drop i = [] := List.eq_nil_of_length_eq_zero (by rw [len_drop]; omega)
      rw [hnil]
      exact atend i l hi (by omega)
/-- A line: its tokens, or its fault. -/
def lineR (s : ByteArray) (n : Int) : List S36 × Int × Int × Int :=
  match looksAt s with
  | some (e, i) => ([], e, n, i)
  | none => match readF s n with
    | .ok l => (l, 0, 0, 0)
    | .error j => ([], 151, n, (j : Int))
theorem rLine (s : ByteArray) (hs : s.size ≤ 1048576) (n : Int) : Ev (fun k => portcullisref15_line.f k s n) (lineR s n) := by
  unfold portcullisref15_line.f lineR looksAt
  refine Ev.bind (rBad s (by omega)) ?_
  cases hu : utfAt s s.size 0 with
  | some i =>
    simp only [posI, if_pos (show (i : Int) ≥ 0 by omega)]
    exact Ev.const _
  | none =>
    simp only [posI, if_neg (show ¬ (-1 : Int) ≥ 0 by decide)]
    refine Ev.bind (rPlain s (by omega)) ?_
    cases hc : ctlAt s s.size 0 with
    | some i =>
      simp only [posI, if_pos (show (i : Int) ≥ 0 by omega)]
      exact Ev.const _
    | none =>
      simp only [posI, if_neg (show ¬ (-1 : Int) ≥ 0 by decide)]
      have h := rLine_l0 s hs n s.size 0 [] (by omega) (by omega) (by simp)
      rw [List.drop_zero] at h
      rw [readF_eq]
      cases hl : lineL s.size n s.size s.data.toList [] with
      | error j => rw [hl] at h; exact h
      | ok l =>
        rw [hl] at h
        simp only [finL] at h
        by_cases c1 : l.length = 0
        · rw [if_pos c1] at h
          simp only [if_pos c1]
          exact h
        · rw [if_neg c1] at h
          simp only [if_neg c1]
          exact h
end Go.Proofs.YtfndanccnjggfaaDoor.Pure

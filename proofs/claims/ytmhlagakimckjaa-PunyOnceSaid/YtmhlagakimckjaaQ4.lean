-- Written by this session's program (a turned print).
import Derived.Test.YtmhlagakimckjaaQ0
import Derived.Test.YtmhlagakimckjaaQ1
import Derived.Test.YtmhlagakimckjaaConv
import Derived.Test.YtmhlagakimckjaaInsert
import Derived.Test.YtmhlagakimckjaaNumber
import Derived.Test.YtmhlagakimckjaaStr
namespace Go.Proofs.Ytmhlagakimckjaa.Q
open Go.RowKit Go.Proofs.YtmhlagakimckjaaW.PrintWords Go.Proofs.YtmhlagakimckjaaW.PrintLast Go.Proofs.YtmhlagakimckjaaW.PrintMore
attribute [local go_sem] max2_int min2_int max_two min_two max_three min_three max_four min_four   -- for this text's walks alone
set_option linter.unusedVariables false
set_option linter.unusedSimpArgs false

/-! ### puny_Decode: function 13 -/
mutual
def puny_Decode.j0 : Nat → ByteArray → List Int → Option (List Int × Int)
  | 0, _, _ => none
  | k + 1, x0, x4 => puny_Decode.l0 k x0 x4 128 0 72
def puny_Decode.l0 : Nat → ByteArray → List Int → Int → Int → Int → Option (List Int × Int)
  | 0, _, _, _, _, _ => none
  | k + 1, x0, x4, x6, x7, x8 => if x0.toList = ([] : List UInt8) then (some (x4, 0)) else ((puny_number.f x0 x7 x8).bind fun bt133 => (if bt133.2 = 0 then (some (([] : List Int), 8)) else (if 0 ≤ bt133.2 then (if bt133.2 ≤ (x0.size : Int) then ((puny_Adapt.f k (wrap64 (bt133.1 - x7)) (wrap64 ((x4.length : Int) + 1)) (x7 == 0)).bind fun t135 => (if (wrap64 ((x4.length : Int) + 1)) = 0 then (none) else ((utf_Encode.f k (([wrap32 (mn (wrap64 (x6 + (wrap64 (Int.tdiv bt133.1 (wrap64 ((x4.length : Int) + 1)))))) 1114112)] : List Int))).bind fun bt139 => (if bt139.2 = 0 then ((slices_Insert_rune_rune.f x4 (Int.tmod bt133.1 (wrap64 ((x4.length : Int) + 1))) (([wrap32 (wrap64 (x6 + (wrap64 (Int.tdiv bt133.1 (wrap64 ((x4.length : Int) + 1))))))] : List Int))).bind fun t144 => (puny_Decode.l0 k (x0.extract (bt133.2 : Int).toNat x0.size) t144 (wrap64 (x6 + (wrap64 (Int.tdiv bt133.1 (wrap64 ((x4.length : Int) + 1)))))) (wrap64 ((Int.tmod bt133.1 (wrap64 ((x4.length : Int) + 1))) + 1)) t135)) else (some (([] : List Int), 8)))))) else (none)) else (none))))
end
def puny_Decode.f (k : Nat) (a0 : ByteArray) : Option (List Int × Int) := if (a0.size : Int) > 63 then (some (([] : List Int), 4)) else ((strings_ContainsFunc.f a0).bind fun t128 => (if t128 = true then (some (([] : List Int), 8)) else ((strings_LastIndexByte.f a0 45).bind fun t129 => (if t129 > 0 then (if 0 ≤ t129 then (if t129 ≤ (a0.size : Int) then (if (a0.extract 0 (t129 : Int).toNat).size < 35184372088832 then (if 0 ≤ (wrap64 (t129 + 1)) then (if (wrap64 (t129 + 1)) ≤ (a0.size : Int) then (puny_Decode.j0 k (a0.extract ((wrap64 (t129 + 1)) : Int).toNat a0.size) (runesOf (a0.extract 0 (t129 : Int).toNat))) else (none)) else (none)) else (none)) else (none)) else (none)) else (puny_Decode.j0 k a0 ([] : List Int))))))
theorem puny_Decode.mono_l : ∀ k, (∀ y0 y1, LeO (puny_Decode.j0 k y0 y1) (puny_Decode.j0 (k + 1) y0 y1)) ∧ (∀ y0 y1 y2 y3 y4, LeO (puny_Decode.l0 k y0 y1 y2 y3 y4) (puny_Decode.l0 (k + 1) y0 y1 y2 y3 y4))
  | 0 => ⟨fun _ _ r h => by simp [puny_Decode.j0] at h, fun _ _ _ _ _ r h => by simp [puny_Decode.l0] at h⟩
  | k + 1 => by
    obtain ⟨ih0, ih1⟩ := puny_Decode.mono_l k
    refine ⟨?_, ?_⟩
    · intro y0 y1
      unfold puny_Decode.j0
      repeat' first
      | (with_reducible exact ih0 _ _)
      | (with_reducible exact ih1 _ _ _ _ _)
      | (with_reducible exact puny_Adapt.mono _ _ _ _)
      | (with_reducible exact utf_Encode.mono _ _)
      | (with_reducible exact LeO.refl _)
      | (with_reducible exact LeO.none _)
      | (with_reducible refine LeO.ite ?_ ?_)
      | (with_reducible refine LeO.bind ?_ (fun _ => ?_))
      | exact ih0 _ _
      | exact ih1 _ _ _ _ _
      | exact puny_Adapt.mono _ _ _ _
      | exact utf_Encode.mono _ _
      | exact LeO.none _
      | refine LeO.ite ?_ ?_
      | refine LeO.bind ?_ (fun _ => ?_)
    · intro y0 y1 y2 y3 y4
      unfold puny_Decode.l0
      repeat' first
      | (with_reducible exact ih0 _ _)
      | (with_reducible exact ih1 _ _ _ _ _)
      | (with_reducible exact puny_Adapt.mono _ _ _ _)
      | (with_reducible exact utf_Encode.mono _ _)
      | (with_reducible exact LeO.refl _)
      | (with_reducible exact LeO.none _)
      | (with_reducible refine LeO.ite ?_ ?_)
      | (with_reducible refine LeO.bind ?_ (fun _ => ?_))
      | exact ih0 _ _
      | exact ih1 _ _ _ _ _
      | exact puny_Adapt.mono _ _ _ _
      | exact utf_Encode.mono _ _
      | exact LeO.none _
      | refine LeO.ite ?_ ?_
      | refine LeO.bind ?_ (fun _ => ?_)
theorem puny_Decode.mono : ∀ a0 k, LeO (puny_Decode.f k a0) (puny_Decode.f (k + 1) a0) := by
  intro a0 k
  obtain ⟨ih0, ih1⟩ := puny_Decode.mono_l k
  unfold puny_Decode.f
  repeat' first
      | (with_reducible exact ih0 _ _)
      | (with_reducible exact ih1 _ _ _ _ _)
      | (with_reducible exact puny_Adapt.mono _ _ _ _)
      | (with_reducible exact utf_Encode.mono _ _)
      | (with_reducible exact LeO.refl _)
      | (with_reducible exact LeO.none _)
      | (with_reducible refine LeO.ite ?_ ?_)
      | (with_reducible refine LeO.bind ?_ (fun _ => ?_))
      | exact ih0 _ _
      | exact ih1 _ _ _ _ _
      | exact puny_Adapt.mono _ _ _ _
      | exact utf_Encode.mono _ _
      | exact LeO.none _
      | refine LeO.ite ?_ ?_
      | refine LeO.bind ?_ (fun _ => ?_)
def puny_Decode.T8 : Bool × List (List Nat × List Nat) := (true, [([], []), ([], []), ([0, 1], [0, 1]), ([2], [2]), ([], []), ([], []), ([5], [5]), ([4, 6], [4, 6]), ([3, 0, 1, 2, 3], [3]), ([7, 8, 0, 1, 2, 3, 4, 5, 6, 7, 8], [0, 4, 7])])
def puny_Decode.B8 : List Nat := [0, 0, 3, 7, 0, 0, 32, 112, 15, 511]
theorem puny_Decode.tab8 : rtab .any (opsOf Try.f13 8) = puny_Decode.T8 := by kernel_rfl
theorem puny_Decode.bits8 : waitsOk puny_Decode.T8.2 puny_Decode.B8 = true := by kernel_rfl
set_option maxHeartbeats 8000000 in
set_option maxRecDepth 100000 in
theorem puny_Decode.calls (k : Nat) (a0 : ByteArray) (r1 : List Int) (r2 : Int) (w : World) (h : puny_Decode.f k a0 = some (r1, r2)) :
    Calls Try.prog 13 #[.string a0] w fun e w' => ∃ v0_ : Value, e = .returned (.tuple #[v0_, .int .i64 r2]) ∧ Kd.R (Kd.int .i32) 21 w' w.heap.size (fun _ => True) v0_ r1 ∧ Below w.heap.size w w' := by
  have HB := Aside0.mk (Below.refl w.heap.size w)
  have H : (if (a0.size : Int) > 63 then (some (([] : List Int), 4)) else ((strings_ContainsFunc.f a0).bind fun t128 => (if t128 = true then (some (([] : List Int), 8)) else ((strings_LastIndexByte.f a0 45).bind fun t129 => (if t129 > 0 then (if 0 ≤ t129 then (if t129 ≤ (a0.size : Int) then (if (a0.extract 0 (t129 : Int).toNat).size < 35184372088832 then (if 0 ≤ (wrap64 (t129 + 1)) then (if (wrap64 (t129 + 1)) ≤ (a0.size : Int) then (puny_Decode.j0 k (a0.extract ((wrap64 (t129 + 1)) : Int).toNat a0.size) (runesOf (a0.extract 0 (t129 : Int).toNat))) else (none)) else (none)) else (none)) else (none)) else (none)) else (puny_Decode.j0 k a0 ([] : List Int))))))) = some (r1, r2) := h
  clear h
  by_cases c2 : (a0.size : Int) > 63
  · rw [if_pos c2] at H
    have c2b0 : decide (63 < (a0.size : Int)) = true := decide_eq_true c2
    have c2b1 : decide (63 < a0.size) = true := decide_eq_true (by omega)
    have c2b2 : 63 < a0.size := by omega
    clear c2
    simp only [Option.some.injEq, Prod.mk.injEq] at H
    obtain ⟨rfl, rfl⟩ := H
    go_enter Try.func13, Try.ntmps13
    go_wp2
    go_ret2
    exact ⟨_, by first | rfl | (simp [errW_none, errW_some] <;> rfl) | (simp [*, errW_none, errW_some] <;> rfl), by first | exact Kd.R_nil _ _ _ _ _ | exact Kd.N_nil _ _ _ _ _ | exact Kd.V_nil _ _ _ _ _ | exact Kd.Q_nil _ _ _ _ _ | exact Kd.S_nil _ _ _ _ _, by repeat (first | (with_reducible first | exact HB.out | apply below_alloc | apply pw_below_drewN | apply below_drew1) | exact HB.out)⟩
  · rw [if_neg c2] at H
    have c2b0 : decide (63 < (a0.size : Int)) = false := decide_eq_false c2
    have c2b1 : decide (63 < a0.size) = false := decide_eq_false (by omega)
    have c2b2 : a0.size ≤ 63 := by omega
    clear c2
    replace H := Option.bind_eq_some_iff.mp H
    obtain ⟨t128, A30, H⟩ := H
    replace H : (if t128 = true then (some (([] : List Int), 8)) else ((strings_LastIndexByte.f a0 45).bind fun t129 => (if t129 > 0 then (if 0 ≤ t129 then (if t129 ≤ (a0.size : Int) then (if (a0.extract 0 (t129 : Int).toNat).size < 35184372088832 then (if 0 ≤ (wrap64 (t129 + 1)) then (if (wrap64 (t129 + 1)) ≤ (a0.size : Int) then (puny_Decode.j0 k (a0.extract ((wrap64 (t129 + 1)) : Int).toNat a0.size) (runesOf (a0.extract 0 (t129 : Int).toNat))) else (none)) else (none)) else (none)) else (none)) else (none)) else (puny_Decode.j0 k a0 ([] : List Int))))) = some (r1, r2) := H
    have A3 := Aside0.mk A30
    clear A30
    by_cases c4 : t128 = true
    · subst c4
      have H1 : (some (([] : List Int), 8)) = some (r1, r2) := by rw [if_pos rfl] at H; exact H
      clear H
      have H := H1
      clear H1
      simp only [Option.some.injEq, Prod.mk.injEq] at H
      obtain ⟨rfl, rfl⟩ := H
      go_enter Try.func13, Try.ntmps13
      go_wp2_with (first | ((with_reducible refine gate_callee (f := 24) rfl ?_); refine goesL_ (some 18) rfl rfl Try.func24 (by kernel_rfl) rfl #[.string a0, (.func (.func 25) #[] #[])] rfl (by (try simp only [List.map_toArray, List.map_cons, List.map_nil]); first | done | rfl | (simp only [List.length_drop, List.length_take]; rfl)) ?_; (with_reducible refine (strings_ContainsFunc.calls a0  true _ A3.out).mono ?_); rintro e w5 ⟨rfl, hb⟩; refine ⟨_, rfl, ?_⟩; have n0_ := Aside0.mk (below_step (by repeat (first | (with_reducible first | exact HB.out | apply below_alloc | apply pw_below_drewN | apply below_drew1) | exact HB.out)) hb); clear HB; have HB := n0_; clear n0_; (try clear hb); (try clear hb2); (try clear hk); (try clear hi)))
      go_ret2
      exact ⟨_, by first | rfl | (simp [errW_none, errW_some] <;> rfl) | (simp [*, errW_none, errW_some] <;> rfl), by first | exact Kd.R_nil _ _ _ _ _ | exact Kd.N_nil _ _ _ _ _ | exact Kd.V_nil _ _ _ _ _ | exact Kd.Q_nil _ _ _ _ _ | exact Kd.S_nil _ _ _ _ _, by repeat (first | (with_reducible first | exact HB.out | apply below_alloc | apply pw_below_drewN | apply below_drew1) | exact HB.out)⟩
    · replace c4 := Bool.eq_false_iff.mpr c4
      subst c4
      have H1 : ((strings_LastIndexByte.f a0 45).bind fun t129 => (if t129 > 0 then (if 0 ≤ t129 then (if t129 ≤ (a0.size : Int) then (if (a0.extract 0 (t129 : Int).toNat).size < 35184372088832 then (if 0 ≤ (wrap64 (t129 + 1)) then (if (wrap64 (t129 + 1)) ≤ (a0.size : Int) then (puny_Decode.j0 k (a0.extract ((wrap64 (t129 + 1)) : Int).toNat a0.size) (runesOf (a0.extract 0 (t129 : Int).toNat))) else (none)) else (none)) else (none)) else (none)) else (none)) else (puny_Decode.j0 k a0 ([] : List Int)))) = some (r1, r2) := by rw [if_neg (show ¬ (false = true) by decide)] at H; exact H
      clear H
      have H := H1
      clear H1
      replace H := Option.bind_eq_some_iff.mp H
      obtain ⟨t129, A60, H⟩ := H
      replace H : (if t129 > 0 then (if 0 ≤ t129 then (if t129 ≤ (a0.size : Int) then (if (a0.extract 0 (t129 : Int).toNat).size < 35184372088832 then (if 0 ≤ (wrap64 (t129 + 1)) then (if (wrap64 (t129 + 1)) ≤ (a0.size : Int) then (puny_Decode.j0 k (a0.extract ((wrap64 (t129 + 1)) : Int).toNat a0.size) (runesOf (a0.extract 0 (t129 : Int).toNat))) else (none)) else (none)) else (none)) else (none)) else (none)) else (puny_Decode.j0 k a0 ([] : List Int))) = some (r1, r2) := H
      have A6 := Aside0.mk A60
      clear A60
      have HC7 := Aside0.mk H
      clear H
      go_enter Try.func13, Try.ntmps13
      go_upto_if 22 with (first | ((with_reducible refine gate_callee (f := 24) rfl ?_); refine goesL_ (some 18) rfl rfl Try.func24 (by kernel_rfl) rfl #[.string a0, (.func (.func 25) #[] #[])] rfl (by (try simp only [List.map_toArray, List.map_cons, List.map_nil]); first | done | rfl | (simp only [List.length_drop, List.length_take]; rfl)) ?_; (with_reducible refine (strings_ContainsFunc.calls a0  false _ A3.out).mono ?_); rintro e w8 ⟨rfl, hb⟩; refine ⟨_, rfl, ?_⟩; have n0_ := Aside0.mk (below_step (by repeat (first | (with_reducible first | exact HB.out | apply below_alloc | apply pw_below_drewN | apply below_drew1) | exact HB.out)) hb); clear HB; have HB := n0_; clear n0_; (try clear hb); (try clear hb2); (try clear hk); (try clear hi)) | ((with_reducible refine gate_callee (f := 26) rfl ?_); refine goesL_ (some 20) rfl rfl Try.func26 (by kernel_rfl) rfl #[.string a0, .int .u8 45] rfl (by (try simp only [List.map_toArray, List.map_cons, List.map_nil]); first | done | rfl | (simp only [List.length_drop, List.length_take]; rfl)) ?_; (with_reducible refine (strings_LastIndexByte.calls a0 45 t129 _ A6.out).mono ?_); rintro e w9 ⟨rfl, hb⟩; refine ⟨_, rfl, ?_⟩; have n0_ := Aside0.mk (below_step (by repeat (first | (with_reducible first | exact HB.out | apply below_alloc | apply pw_below_drewN | apply below_drew1) | exact HB.out)) hb); clear HB; have HB := n0_; clear n0_; (try clear hb); (try clear hb2); (try clear hk); (try clear hi)))
      (try simp only [Act.put, List.setIfInBounds_toArray, List.set_cons_zero, List.set_cons_succ])
      go_cut [0, 4] (fun v0 v4 wc => ∃ (kq : Nat) (x0_6 : ByteArray) (x4_6 : List Int), v0 = .string x0_6 ∧ Aside0 (puny_Decode.j0 kq x0_6 x4_6 = some (r1, r2)) ∧ Aside0 (kq ≤ k) ∧ Aside0 (Kd.R (Kd.int .i32) 21 wc w.heap.size (fun _ => True) v4 x4_6) ∧ Aside0 (Below w.heap.size w wc))
      case first =>
        have H := HC7.out
        clear HC7
        by_cases c10 : t129 > 0
        · rw [if_pos c10] at H
          have c10b0 : decide (0 < t129) = true := decide_eq_true c10
          clear c10
          (first | rw [c10b0] | (simp only [i64_w, i32_w]; rw [c10b0]) | skip)
          by_cases c11 : 0 ≤ t129
          · rw [if_pos c11] at H
            have c11b0 := eq_true c11
            have c11b1 : decide (0 ≤ t129) = true := decide_eq_true c11
            clear c11
            by_cases c12 : t129 ≤ (a0.size : Int)
            · rw [if_pos c12] at H
              have c12b0 := eq_true c12
              have c12b1 : decide (t129 ≤ (a0.size : Int)) = true := decide_eq_true c12
              clear c12
              by_cases c13 : (a0.extract 0 (t129 : Int).toNat).size < 35184372088832
              · rw [if_pos c13] at H
                have LMc13 := Aside0.mk c13
                clear c13
                obtain ⟨y130, hy130⟩ : ∃ y_ : List Int, y_ = (runesOf (a0.extract 0 (t129 : Int).toNat)) := ⟨_, rfl⟩
                replace H : (if 0 ≤ (wrap64 (t129 + 1)) then (if (wrap64 (t129 + 1)) ≤ (a0.size : Int) then (puny_Decode.j0 k (a0.extract ((wrap64 (t129 + 1)) : Int).toNat a0.size) y130) else (none)) else (none)) = some (r1, r2) := by first | (rw [hy130]; with_reducible exact H) | (have H2_ := (Option.bind_some _ _).symm.trans H; rw [hy130]; with_reducible exact H2_) | (have H2_ := (Option.bind_some _ _).symm.trans H; with_reducible exact H2_) | with_reducible exact H | (rw [hy130]; exact H) | exact H
                have Ny130 := Aside0.mk hy130
                clear hy130
                obtain ⟨ji14, hji14⟩ : ∃ j_ : Int, (wrap64 (t129 + 1)) = j_ := ⟨_, rfl⟩
                replace H : (if 0 ≤ (ji14) then (if (ji14) ≤ (a0.size : Int) then (puny_Decode.j0 k (a0.extract ((ji14) : Int).toNat a0.size) y130) else (none)) else (none)) = some (r1, r2) := by first | (rw [hji14] at H; exact H) | (simp only [hji14] at H ⊢; exact H)
                have hji14w : (IntKind.i64.wrap (t129 + 1)) = ji14 := (i64_w _).trans hji14
                by_cases c15 : 0 ≤ (ji14)
                · rw [if_pos c15] at H
                  have c15b0 := eq_true c15
                  have c15b1 : decide (0 ≤ (ji14)) = true := decide_eq_true c15
                  clear c15
                  by_cases c16 : (ji14) ≤ (a0.size : Int)
                  · rw [if_pos c16] at H
                    have c16b0 := eq_true c16
                    have c16b1 : decide ((ji14) ≤ (a0.size : Int)) = true := decide_eq_true c16
                    clear c16
                    have H' := Aside0.mk H
                    clear H
                    try go_wp2
                    have n0_ := Aside0.mk (below_drew1 HB.out)
                    clear HB
                    have HB := n0_
                    clear n0_
                    refine start_ (n := 10) (S := fun w' => True) (ds := []) #[false, false, false, false, false, false, false, false, false, false] (by kernel_rfl) rfl rfl trivial (fun hHeld => ?_); refine with_tabW puny_Decode.tab8 puny_Decode.bits8 (fun HT_ HW_ => ?_)
                    generalize w9.drew = w17 at HB hHeld ⊢
                    refine pure_ (i := 0) (N := some 23) (v := ?_) (a' := ?_) #[true, false, false, false, false, false, false, false, false, false] rfl rfl (any_of HT_.out (by kernel_rfl)) (fun _ _ _ h => h) (Or.inl ⟨by rfl, ?_⟩) ?_ ?_
                    rotate_left
                    · intro w'
                      go_simp
                      with_reducible rfl
                    rotate_left
                    · simp only [Act.put, List.setIfInBounds_toArray, List.set_cons_zero, List.set_cons_succ, i64_w, i32_w]
                      rfl
                    refine pure_ (i := 1) (N := some 24) (v := ?_) (a' := ?_) #[true, true, false, false, false, false, false, false, false, false] rfl rfl (any_of HT_.out (by kernel_rfl)) (fun _ _ _ h => h) (Or.inl ⟨by rfl, ?_⟩) ?_ ?_
                    rotate_left
                    · intro w'
                      go_simp
                      with_reducible rfl
                    rotate_left
                    · simp only [Act.put, List.setIfInBounds_toArray, List.set_cons_zero, List.set_cons_succ, i64_w, i32_w]
                      rfl
                    refine pure_ (i := 2) (N := some 25) (v := ?_) (a' := ?_) #[true, true, true, false, false, false, false, false, false, false] rfl rfl (any_of HT_.out (by kernel_rfl)) (fun _ _ _ h => h) (Or.inl ⟨by rfl, ?_⟩) ?_ ?_
                    rotate_left
                    · intro w'
                      go_simp
                      with_reducible rfl
                    rotate_left
                    · simp only [Act.put, List.setIfInBounds_toArray, List.set_cons_zero, List.set_cons_succ, i64_w, i32_w]
                      rfl
                    refine pure_ (i := 4) (N := some 27) (v := ?_) (a' := ?_) #[true, true, true, false, true, false, false, false, false, false] rfl rfl (any_of HT_.out (by kernel_rfl)) (fun _ _ _ h => h) (Or.inl ⟨by rfl, ?_⟩) ?_ ?_
                    rotate_left
                    · intro w'
                      go_simp
                      with_reducible rfl
                    rotate_left
                    · simp only [Act.put, List.setIfInBounds_toArray, List.set_cons_zero, List.set_cons_succ, i64_w, i32_w]
                      rfl
                    refine pure_ (i := 5) (N := some 28) (v := ?_) (a' := ?_) #[true, true, true, false, true, true, false, false, false, false] rfl rfl (any_of HT_.out (by kernel_rfl)) (fun _ _ _ h => h) (Or.inl ⟨by rfl, ?_⟩) ?_ ?_
                    rotate_left
                    · intro w'
                      go_simp
                      with_reducible rfl
                    rotate_left
                    · simp only [Act.put, List.setIfInBounds_toArray, List.set_cons_zero, List.set_cons_succ, i64_w, i32_w]
                      rfl
                    refine pure_ (i := 6) (N := some 29) (v := ?_) (a' := ?_) #[true, true, true, false, true, true, true, false, false, false] rfl rfl (any_of HT_.out (by kernel_rfl)) (fun _ _ _ h => h) (Or.inl ⟨by rfl, ?_⟩) ?_ ?_
                    rotate_left
                    · intro w'
                      go_simp
                      with_reducible rfl
                    rotate_left
                    · simp only [Act.put, List.setIfInBounds_toArray, List.set_cons_zero, List.set_cons_succ, i64_w, i32_w]
                      rfl
                    refine pure_ (i := 7) (N := some 30) (v := ?_) (a' := ?_) #[true, true, true, false, true, true, true, true, false, false] rfl rfl (any_of HT_.out (by kernel_rfl)) (fun _ _ _ h => h) (Or.inl ⟨by rfl, ?_⟩) ?_ ?_
                    rotate_left
                    · intro w'
                      go_simp
                      with_reducible rfl
                    rotate_left
                    · simp only [Act.put, List.setIfInBounds_toArray, List.set_cons_zero, List.set_cons_succ, i64_w, i32_w]
                      rfl
                    refine one_ (i := 3) (N := some 26) #[true, true, true, true, true, true, true, true, false, false] rfl rfl (one_of HT_.out (by kernel_rfl)) (by decide) (fun K hK => ?_)
                    refine conv_runes_step (w0 := w) w.heap.size (by rfl) (.tmp 25) 9 22 21 rfl Try.underlying9 Try.underlying22 Try.underlying21 (a0.extract 0 (t129 : Int).toNat) rfl (fun _ => True) ?aO ?aF ?aB ?aS ?aL ?_
                    (case aB => exact (by repeat (first | (with_reducible first | exact HB.out | apply below_alloc | apply pw_below_drewN | apply below_drew1) | exact HB.out)))
                    (case aF => exact (fun _ _ => trivial))
                    (case aO => exact ((Kd.R_nil _ _ _ _ (fun _ => True))))
                    (case aS => exact (below_size (by repeat (first | (with_reducible first | exact HB.out | apply below_alloc | apply pw_below_drewN | apply below_drew1) | exact HB.out))))
                    (case aL => have := LMc13.out; omega)
                    intro v131 w18 ho hb hg hat
                    rw [← Ny130.out] at ho
                    have n0_ := Aside0.mk (hb)
                    have n1_ := Aside0.mk (ho)
                    clear HB
                    have HB := n0_
                    have HO132 := n1_
                    clear n0_ n1_
                    clear ho hb hg hat
                    refine hK.out _ _ trivial (fun hHeld => ?_)
                    clear hK K
                    refine norm_ (a' := ?_) ?_ ?_
                    rotate_left
                    · show Act.put _ (some 26) _ = _
                      simp only [Act.put, List.setIfInBounds_toArray, List.set_cons_zero, List.set_cons_succ, i64_w, i32_w]
                      rfl
                    refine pure_ (i := 8) (N := some 4) (v := ?_) (a' := ?_) #[true, true, true, true, true, true, true, true, true, false] rfl rfl (any_of HT_.out (by kernel_rfl)) (fun _ _ _ h => h) (Or.inl ⟨by rfl, ?_⟩) ?_ ?_
                    rotate_left
                    · intro w'
                      go_simp
                      with_reducible rfl
                    rotate_left
                    · simp only [Act.put, List.setIfInBounds_toArray, List.set_cons_zero, List.set_cons_succ, i64_w, i32_w]
                      rfl
                    refine pure_ (i := 9) (N := some 0) (v := ?_) (a' := ?_) #[true, true, true, true, true, true, true, true, true, true] rfl rfl (any_of HT_.out (by kernel_rfl)) (fun _ _ _ h => h) (Or.inl ⟨by rfl, ?_⟩) ?_ ?_
                    rotate_left
                    · intro w'
                      go_simp
                      with_reducible rfl
                    rotate_left
                    · simp only [Act.put, List.setIfInBounds_toArray, List.set_cons_zero, List.set_cons_succ, i64_w, i32_w]
                      rfl
                    refine done_ (done_of HT_.out (by kernel_rfl)) ?_
                    try go_wp2
                    go_meet
                    case rel => exact ⟨_, (a0.extract ((ji14) : Int).toNat a0.size), (y130), (by first | rfl | (simp; done) | (simp only [← hji14] <;> (first | rfl | simp)) | (simp [*]; done)), H', ⟨by first | omega | exact Nat.le_refl _⟩, ⟨by (with_reducible repeat (first | apply Kd.R_alloc | apply Kd.R_drewN | apply Kd.R_drew)); exact HO132.out⟩, ⟨by repeat (first | (with_reducible first | exact HB.out | apply below_alloc | apply pw_below_drewN | apply below_drew1) | exact HB.out)⟩⟩
                  · rw [if_neg c16] at H
                    exact absurd H (by simp)
                · rw [if_neg c15] at H
                  exact absurd H (by simp)
              · rw [if_neg c13] at H
                exact absurd H (by simp)
            · rw [if_neg c12] at H
              exact absurd H (by simp)
          · rw [if_neg c11] at H
            exact absurd H (by simp)
        · rw [if_neg c10] at H
          have c10b0 : decide (0 < t129) = false := decide_eq_false c10
          clear c10
          (first | rw [c10b0] | (simp only [i64_w, i32_w]; rw [c10b0]) | skip)
          have H' := Aside0.mk H
          clear H
          go_wp2
          go_meet
          case rel => exact ⟨_, (a0), (([] : List Int)), (by first | rfl | (simp; done) | (simp [*]; done)), H', ⟨by first | omega | exact Nat.le_refl _⟩, ⟨by first | exact Kd.R_nil _ _ _ _ _ | exact Kd.N_nil _ _ _ _ _ | exact Kd.V_nil _ _ _ _ _ | exact Kd.Q_nil _ _ _ _ _ | exact Kd.S_nil _ _ _ _ _⟩, ⟨by repeat (first | (with_reducible first | exact HB.out | apply below_alloc | apply pw_below_drewN | apply below_drew1) | exact HB.out)⟩⟩
      case rest =>
        clear HC7
        try clear c1
        try clear c2
        try clear c2b0
        try clear c2b1
        try clear c2b2
        try clear p2
        try clear c4
        try clear p6
        try clear c10
        try clear c10b0
        try clear c11
        try clear c11b0
        try clear c11b1
        try clear c12
        try clear c12b0
        try clear c12b1
        try clear c13
        try clear c15
        try clear c15b0
        try clear c15b1
        try clear c16
        try clear c16b0
        try clear c16b1
        obtain ⟨kq, x0_6, x4_6, rfl, HA, HJ6, HO_4, HB⟩ := hcut
        cases kq with
        | zero => exact absurd HA.out (by simp [puny_Decode.j0])
        | succ kj6 =>
          have H := HA.out
          clear HA
          simp only [puny_Decode.j0] at H
          have H' := Aside0.mk H
          clear H
          go_wp2
          go_loopg [0, 4, 6, 7, 8] kj6 (fun kq v0 v4 v6 v7 v8 w' => ∃ (x0_2 : ByteArray) (x4_2 : List Int) (x6_2 : Int) (x7_2 : Int) (x8_2 : Int), v0 = .string x0_2 ∧ v6 = .int .i64 x6_2 ∧ v7 = .int .i64 x7_2 ∧ v8 = .int .i64 x8_2 ∧ Aside0 (puny_Decode.l0 kq x0_2 x4_2 x6_2 x7_2 x8_2 = some (r1, r2)) ∧ Aside0 (kq ≤ kj6) ∧ Aside0 (Kd.R (Kd.int .i32) 21 w' w.heap.size (fun _ => True) v4 x4_2) ∧ Aside0 (Below w.heap.size w w'))
          case atStart => exact ⟨(x0_6), (x4_6), (128), (0), (72), (by first | rfl | (simp; done) | (simp [*]; done)), (by first | rfl | (simp; done) | (simp [*]; done)), (by first | rfl | (simp; done) | (simp [*]; done)), (by first | rfl | (simp; done) | (simp [*]; done)), H', ⟨Nat.le_refl _⟩, ⟨by (with_reducible repeat (first | apply Kd.R_alloc | apply Kd.R_drewN | apply Kd.R_drew)); exact HO_4.out⟩, ⟨by repeat (first | (with_reducible first | exact HB.out | apply below_alloc | apply pw_below_drewN | apply below_drew1) | exact HB.out)⟩⟩
          case round =>
            clear H'
            try clear c1
            try clear c2
            try clear c2b0
            try clear c2b1
            try clear c2b2
            try clear p2
            try clear c4
            try clear p6
            try clear c10
            try clear c10b0
            try clear c11
            try clear c11b0
            try clear c11b1
            try clear c12
            try clear c12b0
            try clear c12b1
            try clear c13
            try clear c15
            try clear c15b0
            try clear c15b1
            try clear c16
            try clear c16b0
            try clear c16b1
            try clear p2
            try clear p6
            obtain ⟨x0_2, x4_2, x6_2, x7_2, x8_2, rfl, rfl, rfl, rfl, HA, HK2, HO_4, HB⟩ := hrel
            cases gk with
            | zero => exact absurd HA.out (by simp [puny_Decode.l0])
            | succ k2 =>
              have H := HA.out
              clear HA
              simp only [puny_Decode.l0] at H
              by_cases c19 : x0_2.toList = ([] : List UInt8)
              · rw [if_pos c19] at H
                have c19b0 : (x0_2.toList == ([] : List UInt8)) = true := beq_iff_eq.mpr c19
                have c19b1 : (x0_2.toList != ([] : List UInt8)) = false := bne_eq_false_iff_eq.mpr c19
                clear c19
                simp only [Option.some.injEq, Prod.mk.injEq] at H
                obtain ⟨rfl, rfl⟩ := H
                go_wp2
                go_ret2
                exact ⟨_, by first | rfl | (simp [errW_none, errW_some] <;> rfl) | (simp [*, errW_none, errW_some] <;> rfl), by (with_reducible repeat (first | apply Kd.R_alloc | apply Kd.R_drewN | apply Kd.R_drew)); exact HO_4.out, by repeat (first | (with_reducible first | exact HB.out | apply below_alloc | apply pw_below_drewN | apply below_drew1) | exact HB.out)⟩
              · rw [if_neg c19] at H
                have c19b0 : (x0_2.toList == ([] : List UInt8)) = false := beq_eq_false_iff_ne.mpr c19
                have c19b1 : (x0_2.toList != ([] : List UInt8)) = true := bne_iff_ne.mpr c19
                replace H := Option.bind_eq_some_iff.mp H
                obtain ⟨⟨t133, t134⟩, A200, H⟩ := H
                replace H : (if t134 = 0 then (some (([] : List Int), 8)) else (if 0 ≤ t134 then (if t134 ≤ (x0_2.size : Int) then ((puny_Adapt.f k2 (wrap64 (t133 - x7_2)) (wrap64 ((x4_2.length : Int) + 1)) (x7_2 == 0)).bind fun t135 => (if (wrap64 ((x4_2.length : Int) + 1)) = 0 then (none) else ((utf_Encode.f k2 (([wrap32 (mn (wrap64 (x6_2 + (wrap64 (Int.tdiv t133 (wrap64 ((x4_2.length : Int) + 1)))))) 1114112)] : List Int))).bind fun bt139 => (if bt139.2 = 0 then ((slices_Insert_rune_rune.f x4_2 (Int.tmod t133 (wrap64 ((x4_2.length : Int) + 1))) (([wrap32 (wrap64 (x6_2 + (wrap64 (Int.tdiv t133 (wrap64 ((x4_2.length : Int) + 1))))))] : List Int))).bind fun t144 => (puny_Decode.l0 k2 (x0_2.extract (t134 : Int).toNat x0_2.size) t144 (wrap64 (x6_2 + (wrap64 (Int.tdiv t133 (wrap64 ((x4_2.length : Int) + 1)))))) (wrap64 ((Int.tmod t133 (wrap64 ((x4_2.length : Int) + 1))) + 1)) t135)) else (some (([] : List Int), 8)))))) else (none)) else (none))) = some (r1, r2) := H
                have A20 := Aside0.mk A200
                clear A200
                by_cases c21 : t134 = 0
                · rw [if_pos c21] at H
                  have c21b0 : (t134 == 0) = true := beq_iff_eq.mpr c21
                  have c21b1 : (t134 != 0) = false := bne_eq_false_iff_eq.mpr c21
                  clear c21
                  simp only [Option.some.injEq, Prod.mk.injEq] at H
                  obtain ⟨rfl, rfl⟩ := H
                  go_wp2_with (first | ((with_reducible refine gate_callee (f := 27) rfl ?_); refine goesL_ (some 37) rfl rfl Try.func27 (by kernel_rfl) rfl #[.string x0_2, .int .i64 x7_2, .int .i64 x8_2] rfl (by (try simp only [List.map_toArray, List.map_cons, List.map_nil]); first | done | rfl | (simp only [List.length_drop, List.length_take]; rfl)) ?_; (with_reducible refine (puny_number.calls x0_2 x7_2 x8_2 t133 t134 _ A20.out).mono ?_); rintro e w22 ⟨rfl, hb⟩; refine ⟨_, rfl, ?_⟩; have n0_ := Aside0.mk (Kd.R_below (by (with_reducible repeat (first | apply Kd.R_alloc | apply Kd.R_drewN | apply Kd.R_drew)); exact HO_4.out) hb); have n1_ := Aside0.mk (below_step (by repeat (first | (with_reducible first | exact HB.out | apply below_alloc | apply pw_below_drewN | apply below_drew1) | exact HB.out)) hb); clear HO_4; clear HB; have HO_4 := n0_; have HB := n1_; clear n0_ n1_; (try clear hb); (try clear hb2); (try clear hk); (try clear hi)))
                  go_ret2
                  exact ⟨_, by first | rfl | (simp [errW_none, errW_some] <;> rfl) | (simp [*, errW_none, errW_some] <;> rfl), by first | exact Kd.R_nil _ _ _ _ _ | exact Kd.N_nil _ _ _ _ _ | exact Kd.V_nil _ _ _ _ _ | exact Kd.Q_nil _ _ _ _ _ | exact Kd.S_nil _ _ _ _ _, by repeat (first | (with_reducible first | exact HB.out | apply below_alloc | apply pw_below_drewN | apply below_drew1) | exact HB.out)⟩
                · rw [if_neg c21] at H
                  have c21b0 : (t134 == 0) = false := beq_eq_false_iff_ne.mpr c21
                  have c21b1 : (t134 != 0) = true := bne_iff_ne.mpr c21
                  by_cases c23 : 0 ≤ t134
                  · rw [if_pos c23] at H
                    have c23b0 := eq_true c23
                    have c23b1 : decide (0 ≤ t134) = true := decide_eq_true c23
                    clear c23
                    by_cases c24 : t134 ≤ (x0_2.size : Int)
                    · rw [if_pos c24] at H
                      have c24b0 := eq_true c24
                      have c24b1 : decide (t134 ≤ (x0_2.size : Int)) = true := decide_eq_true c24
                      clear c24
                      replace H := Option.bind_eq_some_iff.mp H
                      obtain ⟨t135, A250, H⟩ := H
                      replace H : (if (wrap64 ((x4_2.length : Int) + 1)) = 0 then (none) else ((utf_Encode.f k2 (([wrap32 (mn (wrap64 (x6_2 + (wrap64 (Int.tdiv t133 (wrap64 ((x4_2.length : Int) + 1)))))) 1114112)] : List Int))).bind fun bt139 => (if bt139.2 = 0 then ((slices_Insert_rune_rune.f x4_2 (Int.tmod t133 (wrap64 ((x4_2.length : Int) + 1))) (([wrap32 (wrap64 (x6_2 + (wrap64 (Int.tdiv t133 (wrap64 ((x4_2.length : Int) + 1))))))] : List Int))).bind fun t144 => (puny_Decode.l0 k2 (x0_2.extract (t134 : Int).toNat x0_2.size) t144 (wrap64 (x6_2 + (wrap64 (Int.tdiv t133 (wrap64 ((x4_2.length : Int) + 1)))))) (wrap64 ((Int.tmod t133 (wrap64 ((x4_2.length : Int) + 1))) + 1)) t135)) else (some (([] : List Int), 8))))) = some (r1, r2) := H
                      have A25 := Aside0.mk A250
                      clear A250
                      by_cases c26 : (wrap64 ((x4_2.length : Int) + 1)) = 0
                      · rw [if_pos c26] at H
                        exact absurd H (by simp)
                      · rw [if_neg c26] at H
                        have c26b0 : ((wrap64 ((x4_2.length : Int) + 1)) == 0) = false := beq_eq_false_iff_ne.mpr c26
                        have c26b1 : ((wrap64 ((x4_2.length : Int) + 1)) != 0) = true := bne_iff_ne.mpr c26
                        obtain ⟨ji27, hji27⟩ : ∃ j_ : Int, (mn (wrap64 (x6_2 + (wrap64 (Int.tdiv t133 (wrap64 ((x4_2.length : Int) + 1)))))) 1114112) = j_ := ⟨_, rfl⟩
                        replace H : ((utf_Encode.f k2 (([wrap32 (ji27)] : List Int))).bind fun bt139 => (if bt139.2 = 0 then ((slices_Insert_rune_rune.f x4_2 (Int.tmod t133 (wrap64 ((x4_2.length : Int) + 1))) (([wrap32 (wrap64 (x6_2 + (wrap64 (Int.tdiv t133 (wrap64 ((x4_2.length : Int) + 1))))))] : List Int))).bind fun t144 => (puny_Decode.l0 k2 (x0_2.extract (t134 : Int).toNat x0_2.size) t144 (wrap64 (x6_2 + (wrap64 (Int.tdiv t133 (wrap64 ((x4_2.length : Int) + 1)))))) (wrap64 ((Int.tmod t133 (wrap64 ((x4_2.length : Int) + 1))) + 1)) t135)) else (some (([] : List Int), 8)))) = some (r1, r2) := by first | (rw [hji27] at H; exact H) | (simp only [hji27] at H ⊢; exact H)
                        (try rw [hji27] at A20)
                        (try rw [hji27] at A25)
                        have hji27_ : (if 1114112 < (wrap64 (x6_2 + (wrap64 (Int.tdiv t133 (wrap64 ((x4_2.length : Int) + 1)))))) then 1114112 else (wrap64 (x6_2 + (wrap64 (Int.tdiv t133 (wrap64 ((x4_2.length : Int) + 1))))))) = ji27 := hji27
                        obtain ⟨y136, hy136⟩ : ∃ y_ : List Int, y_ = (([wrap32 (ji27)] : List Int)) := ⟨_, rfl⟩
                        replace H : ((utf_Encode.f k2 y136).bind fun bt139 => (if bt139.2 = 0 then ((slices_Insert_rune_rune.f x4_2 (Int.tmod t133 (wrap64 ((x4_2.length : Int) + 1))) (([wrap32 (wrap64 (x6_2 + (wrap64 (Int.tdiv t133 (wrap64 ((x4_2.length : Int) + 1))))))] : List Int))).bind fun t144 => (puny_Decode.l0 k2 (x0_2.extract (t134 : Int).toNat x0_2.size) t144 (wrap64 (x6_2 + (wrap64 (Int.tdiv t133 (wrap64 ((x4_2.length : Int) + 1)))))) (wrap64 ((Int.tmod t133 (wrap64 ((x4_2.length : Int) + 1))) + 1)) t135)) else (some (([] : List Int), 8)))) = some (r1, r2) := by first | (rw [hy136]; with_reducible exact H) | (have H2_ := (Option.bind_some _ _).symm.trans H; rw [hy136]; with_reducible exact H2_) | (have H2_ := (Option.bind_some _ _).symm.trans H; with_reducible exact H2_) | with_reducible exact H | (rw [hy136]; exact H) | exact H
                        have Ny136 := Aside0.mk hy136
                        clear hy136
                        replace H := Option.bind_eq_some_iff.mp H
                        obtain ⟨⟨t139, t140⟩, A280, H⟩ := H
                        replace H : (if t140 = 0 then ((slices_Insert_rune_rune.f x4_2 (Int.tmod t133 (wrap64 ((x4_2.length : Int) + 1))) (([wrap32 (wrap64 (x6_2 + (wrap64 (Int.tdiv t133 (wrap64 ((x4_2.length : Int) + 1))))))] : List Int))).bind fun t144 => (puny_Decode.l0 k2 (x0_2.extract (t134 : Int).toNat x0_2.size) t144 (wrap64 (x6_2 + (wrap64 (Int.tdiv t133 (wrap64 ((x4_2.length : Int) + 1)))))) (wrap64 ((Int.tmod t133 (wrap64 ((x4_2.length : Int) + 1))) + 1)) t135)) else (some (([] : List Int), 8))) = some (r1, r2) := H
                        have A28 := Aside0.mk A280
                        clear A280
                        by_cases c29 : t140 = 0
                        · rw [if_pos c29] at H
                          have c29b0 : (t140 == 0) = true := beq_iff_eq.mpr c29
                          have c29b1 : (t140 != 0) = false := bne_eq_false_iff_eq.mpr c29
                          clear c29
                          obtain ⟨y141, hy141⟩ : ∃ y_ : List Int, y_ = (([wrap32 (wrap64 (x6_2 + (wrap64 (Int.tdiv t133 (wrap64 ((x4_2.length : Int) + 1))))))] : List Int)) := ⟨_, rfl⟩
                          replace H : ((slices_Insert_rune_rune.f x4_2 (Int.tmod t133 (wrap64 ((x4_2.length : Int) + 1))) y141).bind fun t144 => (puny_Decode.l0 k2 (x0_2.extract (t134 : Int).toNat x0_2.size) t144 (wrap64 (x6_2 + (wrap64 (Int.tdiv t133 (wrap64 ((x4_2.length : Int) + 1)))))) (wrap64 ((Int.tmod t133 (wrap64 ((x4_2.length : Int) + 1))) + 1)) t135)) = some (r1, r2) := by first | (rw [hy141]; with_reducible exact H) | (have H2_ := (Option.bind_some _ _).symm.trans H; rw [hy141]; with_reducible exact H2_) | (have H2_ := (Option.bind_some _ _).symm.trans H; with_reducible exact H2_) | with_reducible exact H | (rw [hy141]; exact H) | exact H
                          have Ny141 := Aside0.mk hy141
                          clear hy141
                          replace H := Option.bind_eq_some_iff.mp H
                          obtain ⟨t144, A300, H⟩ := H
                          replace H : (puny_Decode.l0 k2 (x0_2.extract (t134 : Int).toNat x0_2.size) t144 (wrap64 (x6_2 + (wrap64 (Int.tdiv t133 (wrap64 ((x4_2.length : Int) + 1)))))) (wrap64 ((Int.tmod t133 (wrap64 ((x4_2.length : Int) + 1))) + 1)) t135) = some (r1, r2) := H
                          have A30 := Aside0.mk A300
                          clear A300
                          have H' := Aside0.mk H
                          clear H
                          go_wp2_with (first | ((with_reducible refine gate_callee (f := 27) rfl ?_); refine goesL_ (some 37) rfl rfl Try.func27 (by kernel_rfl) rfl #[.string x0_2, .int .i64 x7_2, .int .i64 x8_2] rfl (by (try simp only [List.map_toArray, List.map_cons, List.map_nil]); first | done | rfl | (simp only [List.length_drop, List.length_take]; rfl)) ?_; (with_reducible refine (puny_number.calls x0_2 x7_2 x8_2 t133 t134 _ A20.out).mono ?_); rintro e w31 ⟨rfl, hb⟩; refine ⟨_, rfl, ?_⟩; have n0_ := Aside0.mk (Kd.R_below (by (with_reducible repeat (first | apply Kd.R_alloc | apply Kd.R_drewN | apply Kd.R_drew)); exact HO_4.out) hb); have n1_ := Aside0.mk (below_step (by repeat (first | (with_reducible first | exact HB.out | apply below_alloc | apply pw_below_drewN | apply below_drew1) | exact HB.out)) hb); clear HO_4; clear HB; have HO_4 := n0_; have HB := n1_; clear n0_ n1_; (try clear hb); (try clear hb2); (try clear hk); (try clear hi); obtain ⟨Ao32, co32, eo32⟩ := Kd.R_slice HO_4.out; subst eo32) | ((with_reducible refine gate_callee (f := 11) rfl ?_); refine goesL_ (some 54) rfl rfl Try.func11 (by kernel_rfl) rfl #[.int .i64 (wrap64 (t133 - x7_2)), .int .i64 (wrap64 ((x4_2.length : Int) + 1)), .bool (x7_2 == 0)] rfl (by (try simp only [List.map_toArray, List.map_cons, List.map_nil]); first | done | rfl | (simp only [List.length_drop, List.length_take]; rfl)) ?_; (with_reducible refine (puny_Adapt.calls k2 (wrap64 (t133 - x7_2)) (wrap64 ((x4_2.length : Int) + 1)) (x7_2 == 0) t135 _ A25.out).mono ?_); rintro e w' ⟨rfl, ⟨nd, rfl⟩⟩; refine ⟨_, rfl, ?_⟩) | ((with_reducible refine gate_dst (N := 67) rfl ?_); refine Kd.R_lit (Kd.int .i32) _ 21 ?hg (N := 67) ?hd (xs := ([wrap32 (ji27)] : List Int)) (inner := [.int .i32 (wrap32 (ji27))]) (ok := fun _ => True) (okp := fun _ => True) ?hr ?hp (fun _ hk => hk) trivial (Below.refl _ _) (Nat.le_refl _) (by simp) ?_; (case hd => rfl); (case hg => rfl); (case hr => first | (go_simp; done) | (go_simp; rfl)); (case hp => exact (Reps.one (show Kd.M (Kd.int .i32) _ _ _ (wrap32 (ji27)) [.int .i32 (wrap32 (ji27))] from rfl) (Reps.none _ _))); intro v137 w33 ho34 hb hg_ hnew_; clear hg_ hnew_; (first | rw [← Ny136.out] at ho34 | (simp only [Int.reduceToNat] at ho34; rw [← Ny136.out] at ho34)); have n0_ := Aside0.mk (Kd.R_elder' (by (with_reducible repeat (first | apply Kd.R_alloc | apply Kd.R_drewN | apply Kd.R_drew)); exact HO_4.out) (Kd.R_base ho34) hb); have n1_ := Aside0.mk (Kd.R_lower (Kd.R_new' ho34 (Kd.R_lt (by (with_reducible repeat (first | apply Kd.R_alloc | apply Kd.R_drewN | apply Kd.R_drew)); exact HO_4.out))) (below_size (by repeat (first | (with_reducible first | exact HB.out | apply below_alloc | apply pw_below_drewN | apply below_drew1) | exact HB.out)))); have n2_ := Aside0.mk (below_step (by repeat (first | (with_reducible first | exact HB.out | apply below_alloc | apply pw_below_drewN | apply below_drew1) | exact HB.out)) hb); clear HO_4; clear HB; have HO_4 := n0_; have HO138 := n1_; have HB := n2_; clear n0_ n1_ n2_; clear hb ho34; obtain ⟨Ao35, co35, eo35⟩ := Kd.R_slice HO138.out; subst eo35) | ((with_reducible refine gate_callee (f := 16) rfl ?_); refine goesL_ (some 68) rfl rfl Try.func16 (by kernel_rfl) rfl #[.slice Ao35 y136.length co35] rfl (by (try simp only [List.map_toArray, List.map_cons, List.map_nil]); first | done | rfl | (simp only [List.length_drop, List.length_take]; rfl)) ?_; (with_reducible refine (utf_Encode.calls k2 _ _ y136 t139 t140 _ ?side1 ?side2 A28.out).mono ?_); (case side1 => repeat (first | exact (Kd.R_reads' HO138.out).2.2 | (with_reducible refine Kd.C_alloc ?_ _) | (with_reducible refine Kd.C_drewN ?_ _) | (with_reducible refine Kd.C_drew ?_))); (case side2 => exact (Kd.R_reads' HO138.out).2.1); rintro e w36 ⟨rfl, hb⟩; refine ⟨_, rfl, ?_⟩; have n0_ := Aside0.mk (Kd.R_below (by (with_reducible repeat (first | apply Kd.R_alloc | apply Kd.R_drewN | apply Kd.R_drew)); exact HO_4.out) hb); have n1_ := Aside0.mk (Kd.R_below (by (with_reducible repeat (first | apply Kd.R_alloc | apply Kd.R_drewN | apply Kd.R_drew)); exact HO138.out) hb); have n2_ := Aside0.mk (below_step (by repeat (first | (with_reducible first | exact HB.out | apply below_alloc | apply pw_below_drewN | apply below_drew1) | exact HB.out)) hb); clear HO_4; clear HO138; clear HB; have HO_4 := n0_; have HO138 := n1_; have HB := n2_; clear n0_ n1_ n2_; (try clear hb); (try clear hb2); (try clear hk); (try clear hi)) | ((with_reducible refine gate_dst (N := 77) rfl ?_); refine Kd.R_lit (Kd.int .i32) _ 21 ?hg (N := 77) ?hd (xs := ([wrap32 (wrap64 (x6_2 + (wrap64 (Int.tdiv t133 (wrap64 ((x4_2.length : Int) + 1))))))] : List Int)) (inner := [.int .i32 (wrap32 (wrap64 (x6_2 + (wrap64 (Int.tdiv t133 (wrap64 ((x4_2.length : Int) + 1)))))))]) (ok := fun _ => True) (okp := fun _ => True) ?hr ?hp (fun _ hk => hk) trivial (Below.refl _ _) (Nat.le_refl _) (by simp) ?_; (case hd => rfl); (case hg => rfl); (case hr => first | (go_simp; done) | (go_simp; rfl)); (case hp => exact (Reps.one (show Kd.M (Kd.int .i32) _ _ _ (wrap32 (wrap64 (x6_2 + (wrap64 (Int.tdiv t133 (wrap64 ((x4_2.length : Int) + 1))))))) [.int .i32 (wrap32 (wrap64 (x6_2 + (wrap64 (Int.tdiv t133 (wrap64 ((x4_2.length : Int) + 1)))))))] from rfl) (Reps.none _ _))); intro v142 w37 ho38 hb hg_ hnew_; clear hg_ hnew_; (first | rw [← Ny141.out] at ho38 | (simp only [Int.reduceToNat] at ho38; rw [← Ny141.out] at ho38)); have n0_ := Aside0.mk (Kd.R_elder' (by (with_reducible repeat (first | apply Kd.R_alloc | apply Kd.R_drewN | apply Kd.R_drew)); exact HO_4.out) (Kd.R_base ho38) hb); have n1_ := Aside0.mk (Kd.R_elder' (by (with_reducible repeat (first | apply Kd.R_alloc | apply Kd.R_drewN | apply Kd.R_drew)); exact HO138.out) (Kd.R_base ho38) hb); have n2_ := Aside0.mk (Kd.R_lower (Kd.R_new' (Kd.R_new' ho38 (Kd.R_lt (by (with_reducible repeat (first | apply Kd.R_alloc | apply Kd.R_drewN | apply Kd.R_drew)); exact HO_4.out))) (Kd.R_lt (by (with_reducible repeat (first | apply Kd.R_alloc | apply Kd.R_drewN | apply Kd.R_drew)); exact HO138.out))) (below_size (by repeat (first | (with_reducible first | exact HB.out | apply below_alloc | apply pw_below_drewN | apply below_drew1) | exact HB.out)))); have n3_ := Aside0.mk (below_step (by repeat (first | (with_reducible first | exact HB.out | apply below_alloc | apply pw_below_drewN | apply below_drew1) | exact HB.out)) hb); clear HO_4; clear HO138; clear HB; have HO_4 := n0_; have HO138 := n1_; have HO143 := n2_; have HB := n3_; clear n0_ n1_ n2_ n3_; clear hb ho38; obtain ⟨Ao39, co39, eo39⟩ := Kd.R_slice HO143.out; subst eo39) | ((with_reducible refine gate_callee (f := 28) rfl ?_); refine goesL_ (some 78) rfl rfl Try.func28 (by kernel_rfl) rfl #[.slice Ao32 x4_2.length co32, .int .i64 (Int.tmod t133 (wrap64 ((x4_2.length : Int) + 1))), .slice Ao39 y141.length co39] rfl (by (try simp only [List.map_toArray, List.map_cons, List.map_nil]); first | done | rfl | (simp only [List.length_drop, List.length_take]; rfl)) ?_; (with_reducible refine (slices_Insert_rune_rune.calls (fun k_ => some k_ = (.slice Ao32 x4_2.length co32 : Value).ownBlock) (.slice Ao32 x4_2.length co32) x4_2 (Int.tmod t133 (wrap64 ((x4_2.length : Int) + 1))) _ _ y141 t144 w _ ?side1 ?side2 ?side3 ?side4 A30.out).mono ?_); (case side1 => repeat (first | (with_reducible first | exact HB.out | apply below_alloc | apply pw_below_drewN | apply below_drew1) | exact HB.out)); (case side2 => exact Kd.R_tight rfl HO_4.out); (case side3 => exact lit_own (HO143.out) (fun k_ hk_ hs_ => (hk_.1.2) hs_)); (case side4 => exact (Kd.R_reads' HO143.out).2.1); rintro e w40 ⟨v145, rfl, ho0, hb, hkp⟩; refine ⟨_, rfl, ?_⟩; have n0_ := Aside0.mk (Kd.R_mono (ok' := fun k_ => some k_ ≠ (.slice Ao39 y141.length co39 : Value).ownBlock ∧ some k_ ≠ (v145 : Value).ownBlock) (Kd.R_keptB (HO138.out) hkp (fun k_ hk_ hs_ => (hk_.1.2) hs_)) (fun k_ hk_ => ⟨hk_.1.2, fun e_ => Or.elim (ho0.1 k_ e_.symm) (fun hs_ => hk_.2.1 hs_) (fun hn_ => Nat.not_le.2 hk_.2.2 hn_)⟩)); have n1_ := Aside0.mk (Kd.R_mono (ok' := fun k_ => some k_ ≠ (.slice Ao35 y136.length co35 : Value).ownBlock ∧ some k_ ≠ (v145 : Value).ownBlock) (Kd.R_keptB (HO143.out) hkp (fun k_ hk_ hs_ => (hk_.1.2) hs_)) (fun k_ hk_ => ⟨hk_.1.2, fun e_ => Or.elim (ho0.1 k_ e_.symm) (fun hs_ => hk_.2.1 hs_) (fun hn_ => Nat.not_le.2 hk_.2.2 hn_)⟩)); have n2_ := Aside0.mk (Kd.R_mono (ok' := fun k_ => some k_ ≠ (.slice Ao35 y136.length co35 : Value).ownBlock ∧ some k_ ≠ (.slice Ao39 y141.length co39 : Value).ownBlock) ho0 (fun k_ hk_ => ⟨Or.elim hk_ (fun hs_ => fun e_ => (((HO138.out).1 k_ e_.symm).1.2) hs_) (fun hn_ => (Kd.fresh' (Kd.R_lt (by (with_reducible repeat (first | apply Kd.R_alloc | apply Kd.R_drewN | apply Kd.R_drew)); exact HO138.out)) k_ hn_)), Or.elim hk_ (fun hs_ => fun e_ => (((HO143.out).1 k_ e_.symm).1.2) hs_) (fun hn_ => (Kd.fresh' (Kd.R_lt (by (with_reducible repeat (first | apply Kd.R_alloc | apply Kd.R_drewN | apply Kd.R_drew)); exact HO143.out)) k_ hn_))⟩)); have n3_ := Aside0.mk (hb); clear HO138; clear HO143; clear HB; clear HO_4; have HO138 := n0_; have HO143 := n1_; have HO146 := n2_; have HB := n3_; clear n0_ n1_ n2_ n3_; (try clear hb); (try clear hkp); (try clear ho0)))
                          go_roundg k2
                          case measure => have := HJ6.out; have := HK2.out; omega
                          case rel => exact ⟨(x0_2.extract (t134 : Int).toNat x0_2.size), (t144), (wrap64 (x6_2 + (wrap64 (Int.tdiv t133 (wrap64 ((x4_2.length : Int) + 1)))))), (wrap64 ((Int.tmod t133 (wrap64 ((x4_2.length : Int) + 1))) + 1)), (t135), (by first | rfl | (simp; done) | (simp [*]; done)), (by first | rfl | (simp; done) | (simp [*]; done)), (by first | rfl | (simp; done) | (simp [*]; done)), (by first | rfl | (simp; done) | (simp [*]; done)), H', ⟨by have := HJ6.out; have := HK2.out; omega⟩, ⟨by (with_reducible repeat (first | apply Kd.R_alloc | apply Kd.R_drewN | apply Kd.R_drew)); exact Kd.R_mono HO146.out (fun _ hk => trivial)⟩, ⟨by repeat (first | (with_reducible first | exact HB.out | apply below_alloc | apply pw_below_drewN | apply below_drew1) | exact HB.out)⟩⟩
                        · rw [if_neg c29] at H
                          have c29b0 : (t140 == 0) = false := beq_eq_false_iff_ne.mpr c29
                          have c29b1 : (t140 != 0) = true := bne_iff_ne.mpr c29
                          simp only [Option.some.injEq, Prod.mk.injEq] at H
                          obtain ⟨rfl, rfl⟩ := H
                          go_wp2_with (first | ((with_reducible refine gate_callee (f := 27) rfl ?_); refine goesL_ (some 37) rfl rfl Try.func27 (by kernel_rfl) rfl #[.string x0_2, .int .i64 x7_2, .int .i64 x8_2] rfl (by (try simp only [List.map_toArray, List.map_cons, List.map_nil]); first | done | rfl | (simp only [List.length_drop, List.length_take]; rfl)) ?_; (with_reducible refine (puny_number.calls x0_2 x7_2 x8_2 t133 t134 _ A20.out).mono ?_); rintro e w41 ⟨rfl, hb⟩; refine ⟨_, rfl, ?_⟩; have n0_ := Aside0.mk (Kd.R_below (by (with_reducible repeat (first | apply Kd.R_alloc | apply Kd.R_drewN | apply Kd.R_drew)); exact HO_4.out) hb); have n1_ := Aside0.mk (below_step (by repeat (first | (with_reducible first | exact HB.out | apply below_alloc | apply pw_below_drewN | apply below_drew1) | exact HB.out)) hb); clear HO_4; clear HB; have HO_4 := n0_; have HB := n1_; clear n0_ n1_; (try clear hb); (try clear hb2); (try clear hk); (try clear hi); obtain ⟨Ao42, co42, eo42⟩ := Kd.R_slice HO_4.out; subst eo42) | ((with_reducible refine gate_callee (f := 11) rfl ?_); refine goesL_ (some 54) rfl rfl Try.func11 (by kernel_rfl) rfl #[.int .i64 (wrap64 (t133 - x7_2)), .int .i64 (wrap64 ((x4_2.length : Int) + 1)), .bool (x7_2 == 0)] rfl (by (try simp only [List.map_toArray, List.map_cons, List.map_nil]); first | done | rfl | (simp only [List.length_drop, List.length_take]; rfl)) ?_; (with_reducible refine (puny_Adapt.calls k2 (wrap64 (t133 - x7_2)) (wrap64 ((x4_2.length : Int) + 1)) (x7_2 == 0) t135 _ A25.out).mono ?_); rintro e w' ⟨rfl, ⟨nd, rfl⟩⟩; refine ⟨_, rfl, ?_⟩) | ((with_reducible refine gate_dst (N := 67) rfl ?_); refine Kd.R_lit (Kd.int .i32) _ 21 ?hg (N := 67) ?hd (xs := ([wrap32 (ji27)] : List Int)) (inner := [.int .i32 (wrap32 (ji27))]) (ok := fun _ => True) (okp := fun _ => True) ?hr ?hp (fun _ hk => hk) trivial (Below.refl _ _) (Nat.le_refl _) (by simp) ?_; (case hd => rfl); (case hg => rfl); (case hr => first | (go_simp; done) | (go_simp; rfl)); (case hp => exact (Reps.one (show Kd.M (Kd.int .i32) _ _ _ (wrap32 (ji27)) [.int .i32 (wrap32 (ji27))] from rfl) (Reps.none _ _))); intro v137 w43 ho44 hb hg_ hnew_; clear hg_ hnew_; (first | rw [← Ny136.out] at ho44 | (simp only [Int.reduceToNat] at ho44; rw [← Ny136.out] at ho44)); have n0_ := Aside0.mk (Kd.R_elder' (by (with_reducible repeat (first | apply Kd.R_alloc | apply Kd.R_drewN | apply Kd.R_drew)); exact HO_4.out) (Kd.R_base ho44) hb); have n1_ := Aside0.mk (Kd.R_lower (Kd.R_new' ho44 (Kd.R_lt (by (with_reducible repeat (first | apply Kd.R_alloc | apply Kd.R_drewN | apply Kd.R_drew)); exact HO_4.out))) (below_size (by repeat (first | (with_reducible first | exact HB.out | apply below_alloc | apply pw_below_drewN | apply below_drew1) | exact HB.out)))); have n2_ := Aside0.mk (below_step (by repeat (first | (with_reducible first | exact HB.out | apply below_alloc | apply pw_below_drewN | apply below_drew1) | exact HB.out)) hb); clear HO_4; clear HB; have HO_4 := n0_; have HO138 := n1_; have HB := n2_; clear n0_ n1_ n2_; clear hb ho44; obtain ⟨Ao45, co45, eo45⟩ := Kd.R_slice HO138.out; subst eo45) | ((with_reducible refine gate_callee (f := 16) rfl ?_); refine goesL_ (some 68) rfl rfl Try.func16 (by kernel_rfl) rfl #[.slice Ao45 y136.length co45] rfl (by (try simp only [List.map_toArray, List.map_cons, List.map_nil]); first | done | rfl | (simp only [List.length_drop, List.length_take]; rfl)) ?_; (with_reducible refine (utf_Encode.calls k2 _ _ y136 t139 t140 _ ?side1 ?side2 A28.out).mono ?_); (case side1 => repeat (first | exact (Kd.R_reads' HO138.out).2.2 | (with_reducible refine Kd.C_alloc ?_ _) | (with_reducible refine Kd.C_drewN ?_ _) | (with_reducible refine Kd.C_drew ?_))); (case side2 => exact (Kd.R_reads' HO138.out).2.1); rintro e w46 ⟨rfl, hb⟩; refine ⟨_, rfl, ?_⟩; have n0_ := Aside0.mk (Kd.R_below (by (with_reducible repeat (first | apply Kd.R_alloc | apply Kd.R_drewN | apply Kd.R_drew)); exact HO_4.out) hb); have n1_ := Aside0.mk (Kd.R_below (by (with_reducible repeat (first | apply Kd.R_alloc | apply Kd.R_drewN | apply Kd.R_drew)); exact HO138.out) hb); have n2_ := Aside0.mk (below_step (by repeat (first | (with_reducible first | exact HB.out | apply below_alloc | apply pw_below_drewN | apply below_drew1) | exact HB.out)) hb); clear HO_4; clear HO138; clear HB; have HO_4 := n0_; have HO138 := n1_; have HB := n2_; clear n0_ n1_ n2_; (try clear hb); (try clear hb2); (try clear hk); (try clear hi)))
                          go_ret2
                          exact ⟨_, by first | rfl | (simp [errW_none, errW_some] <;> rfl) | (simp only [← hji27]; first | rfl | (simp [errW_none, errW_some] <;> rfl)) | (simp [*, errW_none, errW_some] <;> rfl), by first | exact Kd.R_nil _ _ _ _ _ | exact Kd.N_nil _ _ _ _ _ | exact Kd.V_nil _ _ _ _ _ | exact Kd.Q_nil _ _ _ _ _ | exact Kd.S_nil _ _ _ _ _, by repeat (first | (with_reducible first | exact HB.out | apply below_alloc | apply pw_below_drewN | apply below_drew1) | exact HB.out)⟩
                    · rw [if_neg c24] at H
                      exact absurd H (by simp)
                  · rw [if_neg c23] at H
                    exact absurd H (by simp)

end Go.Proofs.Ytmhlagakimckjaa.Q

import Derived.Test.YtmhlagakimckjaaPurE
/- What is proved: digits are read as the number that they were written for, and a number that is read is written by just those digits, but for capitals. -/
namespace Go.Proofs.Ytmhlagakimckjaa.Pure
open Go.RowKit Go.Proofs.Ytmhlagakimckjaa.Q Go.Proofs.YtmhlagakimckjaaW.PrintWords Go.Proofs.YtmhlagakimckjaaW.PrintLast Go.Proofs.YtmhlagakimckjaaW.PrintMore
set_option linter.unusedVariables false
set_option linter.unusedSimpArgs false

theorem dig_ltr (d : Int) (h0 : 0 ≤ d) (h1 : d ≤ 35) : dig (ltr d) = (d, true) := by
  unfold dig ltr
  by_cases c : d < 26
  · rw [if_pos c, if_pos (by omega)]; congr 1; omega
  · rw [if_neg c, if_neg (by omega), if_neg (by omega), if_pos (by omega)]; congr 1; omega
theorem ltr_bd (d : Int) (h0 : 0 ≤ d) (h1 : d ≤ 35) : 48 ≤ ltr d ∧ ltr d ≤ 122 := by unfold ltr; split <;> omega

def low (c : Int) : Int := if 65 ≤ c ∧ c ≤ 90 then c + 32 else c
theorem low_dig (c d : Int) (h : dig c = (d, true)) : low c = ltr d := by
  unfold dig at h
  unfold low ltr
  by_cases a : 97 ≤ c ∧ c ≤ 122
  · rw [if_pos a] at h
    injection h with h _
    rw [if_neg (by omega), if_pos (by omega)]; omega
  · rw [if_neg a] at h
    by_cases b : 65 ≤ c ∧ c ≤ 90
    · rw [if_pos b] at h
      injection h with h _
      rw [if_pos b, if_pos (by omega)]; omega
    · rw [if_neg b] at h
      by_cases e : 48 ≤ c ∧ c ≤ 57
      · rw [if_pos e] at h
        injection h with h _
        rw [if_neg b, if_neg (by omega)]; omega
      · rw [if_neg e] at h
        injection h with _ h
        cases h

/-- What is written is ASCII, and no hyphen. -/
theorem digs_bd (F : Nat) : ∀ (q k bias : Int), 0 ≤ q → ∀ c ∈ digs F q k bias, 48 ≤ c ∧ c ≤ 122 := by
  induction F with
  | zero => intro q k bias hq c hc; simp [digs] at hc
  | succ F ih =>
    intro q k bias hq c hc
    have ht := thr_bd k bias
    unfold digs at hc
    by_cases h : q < thr k bias
    · rw [if_pos h] at hc
      rw [List.mem_singleton] at hc
      subst hc
      exact ltr_bd q hq (by omega)
    · rw [if_neg h] at hc
      have hqq := quo_less (by omega : thr k bias ≤ q) ht.1 ht.2
      rcases List.mem_cons.1 hc with rfl | hc
      · exact ltr_bd _ (by omega) (by omega)
      · exact ih _ _ _ hqq.1 c hc

theorem digs_ne (q k bias : Int) : 1 ≤ (digs (q.toNat + 1) q k bias).length := by
  unfold digs
  split <;> simp

theorem thr_mono {k k' bias : Int} (h : k ≤ k') : thr k bias ≤ thr k' bias := by unfold thr; omega

theorem pow35 : ∀ a : Nat, (35 : Int) ^ a ≤ 120000000 → (35 : Int) ^ (a + 1) ≤ 1838265625
  | 0, _ => by decide
  | 1, _ => by decide
  | 2, _ => by decide
  | 3, _ => by decide
  | 4, _ => by decide
  | 5, _ => by decide
  | a + 6, h => by
    have h1 : (1 : Int) ≤ 35 ^ a := Int.pow_pos (by decide)
    rw [Int.pow_add] at h
    have : (35 : Int) ^ 6 = 1838265625 := by decide
    rw [this] at h
    omega

/-- Digits are read as the number that they were written for. -/
theorem num_digs (bias : Int) (R : List Int) (F : Nat) : ∀ (q : Int) (a : Nat) (i wt : Int), q.toNat + 1 ≤ F → 0 ≤ q → 0 ≤ i → 1 ≤ wt → i + wt * q ≤ 2147483647 → wt * q ≤ 120000000 → (thr (36 * a + 36) bias = 1 → wt = 35 ^ a) →
    num (digs F q (36 * a + 36) bias ++ R) a i wt bias = (i + wt * q, (a : Int) + ((digs F q (36 * a + 36) bias).length : Int)) := by
  induction F with
  | zero => intro q a i wt h; omega
  | succ F ih =>
    intro q a i wt hF hq hi hw h1 h2 h3
    have ht := thr_bd (36 * a + 36) bias
    have htm : thr (36 * a + 36) bias ≤ thr (36 * (a + 1 : Nat) + 36) bias := thr_mono (by omega)
    obtain ⟨t, htt⟩ : ∃ t, thr (36 * (a : Int) + 36) bias = t := ⟨_, rfl⟩
    unfold digs
    rw [htt] at ht h3 htm ⊢
    by_cases c : q < t
    · rw [if_pos c]
      rw [List.singleton_append, num, dig_ltr q hq (by omega)]
      simp only [Bool.true_eq_false, if_false, htt]
      rw [Int.mul_comm q wt, if_neg (by omega), if_pos c]
      rfl
    · rw [if_neg c]
      have hqq := quo_less (by omega : t ≤ q) ht.1 ht.2
      obtain ⟨r, hr⟩ : ∃ r, (q - t) % (36 - t) = r := ⟨_, rfl⟩
      obtain ⟨q', hq'⟩ : ∃ q', (q - t) / (36 - t) = q' := ⟨_, rfl⟩
      have hdm := Int.mul_ediv_add_emod (q - t) (36 - t)
      rw [hr, hq'] at hdm hqq
      rw [hr, hq']
      -- q = t + r + (36 - t) * q'
      have hqe : q = t + r + (36 - t) * q' := by omega
      have hwq : wt * q = (t + r) * wt + wt * (36 - t) * q' := by
        rw [hqe, Int.mul_add, Int.mul_comm wt (t + r), Int.mul_assoc]
      have hp0 : 0 ≤ wt * (36 - t) * q' := Int.mul_nonneg (Int.mul_nonneg (by omega) (by omega)) (by omega)
      have hp1 : 0 ≤ (t + r) * wt := Int.mul_nonneg (by omega) (by omega)
      have hwt : wt * t ≤ wt * q := Int.mul_le_mul_of_nonneg_left (by omega) (by omega)
      have hw36 : 1 * 1 ≤ wt * (36 - t) := Int.mul_le_mul hw (by omega) (by omega) (by omega)
      have hbig : wt * (36 - t) ≤ 2147483647 := by
        by_cases t1 : t = 1
        · have hw2 := h3 t1
          subst t1
          have := pow35 a (by rw [← hw2]; omega)
          rw [Int.pow_succ, ← hw2] at this
          omega
        · have h4 : wt * 2 ≤ wt * t := Int.mul_le_mul_of_nonneg_left (by omega) (by omega)
          have h5 : wt * (36 - t) ≤ wt * 34 := Int.mul_le_mul_of_nonneg_left (by omega) (by omega)
          omega
      rw [List.cons_append, num, dig_ltr (t + r) (by omega) (by omega)]
      simp only [Bool.true_eq_false, if_false, htt]
      rw [if_neg (by omega), if_neg (by omega), if_neg (by omega)]
      rw [show (36 * (a : Int) + 36 + 36) = 36 * ((a + 1 : Nat) : Int) + 36 by omega, show (a : Int) + 1 = ((a + 1 : Nat) : Int) by omega]
      rw [ih q' (a + 1) (i + (t + r) * wt) (wt * (36 - t)) (by omega) hqq.1 (by omega) (by omega) (by omega) (by omega) (fun h => by
        have ht1 : t = 1 := by omega
        rw [h3 ht1, ht1, Int.pow_succ]
        rfl)]
      simp only [List.length_cons]
      congr 1 <;> omega

/-- What is read is written by just those digits, but for capitals. -/
theorem num_inv (bias : Int) : ∀ (l : List Int) (at_ i wt j took : Int), num l at_ i wt bias = (j, took) → took ≠ 0 → 0 ≤ at_ → 0 ≤ i → 1 ≤ wt →
    ∃ q, 0 ≤ q ∧ j = i + wt * q ∧ digs (q.toNat + 1) q (36 * at_ + 36) bias = (l.take (took - at_).toNat).map low
  | [], at_, i, wt, j, took, h, hne, h0, h1, h2 => by
    unfold num at h
    injection h with _ h
    exact absurd h.symm hne
  | c :: l, at_, i, wt, j, took, h, hne, h0, h1, h2 => by
    have hd := dig_bd c
    have ht := thr_bd (36 * at_ + 36) bias
    unfold num at h
    obtain ⟨d, b, hdb⟩ : ∃ d b, dig c = (d, b) := ⟨_, _, rfl⟩
    obtain ⟨t, htt⟩ : ∃ t, thr (36 * at_ + 36) bias = t := ⟨_, rfl⟩
    rw [hdb] at hd h
    rw [htt] at ht h
    simp only at hd h
    have hm : 0 ≤ d * wt := Int.mul_nonneg hd.1 (by omega)
    by_cases c1 : b = false
    · rw [if_pos c1] at h; injection h with _ h; exact absurd h.symm hne
    rw [if_neg c1] at h
    have hb : b = true := by simpa using c1
    subst hb
    have hlow := low_dig c d hdb
    by_cases c2 : 2147483647 < i + d * wt
    · rw [if_pos c2] at h; injection h with _ h; exact absurd h.symm hne
    rw [if_neg c2] at h
    by_cases c3 : d < t
    · rw [if_pos c3] at h
      injection h with hj htk
      refine ⟨d, hd.1, by rw [Int.mul_comm wt d]; exact hj.symm, ?_⟩
      rw [← htk, show (at_ + 1 - at_).toNat = 1 by omega]
      unfold digs
      rw [htt, if_pos c3]
      simp [hlow]
    rw [if_neg c3] at h
    by_cases c4 : 2147483647 < wt * (36 - t)
    · rw [if_pos c4] at h; injection h with _ h; exact absurd h.symm hne
    rw [if_neg c4] at h
    have hw : 1 * 1 ≤ wt * (36 - t) := Int.mul_le_mul h2 (by omega) (by omega) (by omega)
    obtain ⟨q', hq0, hj, hdg⟩ := num_inv bias l (at_ + 1) (i + d * wt) (wt * (36 - t)) j took h hne (by omega) (by omega) (by omega)
    have hsp := num_spec l (at_ + 1) (i + d * wt) (wt * (36 - t)) bias (by omega) (by omega) (by omega)
    rw [h] at hsp
    have htk : at_ + 2 ≤ took := by
      rcases hsp with hsp | hsp
      · injection hsp with _ h9; exact absurd h9 hne
      · have := hsp.1; simp only at this; omega
    have hp : 0 ≤ (36 - t) * q' := Int.mul_nonneg (by omega) hq0
    refine ⟨d + (36 - t) * q', by omega, ?_, ?_⟩
    · rw [hj, Int.mul_add, Int.mul_comm wt d, Int.mul_assoc]; omega
    · have e1 : (d + (36 - t) * q' - t) % (36 - t) = d - t := by
        rw [show d + (36 - t) * q' - t = (d - t) + (36 - t) * q' by omega, Int.add_mul_emod_self_left]
        exact Int.emod_eq_of_lt (by omega) (by omega)
      have e2 : (d + (36 - t) * q' - t) / (36 - t) = q' := by
        rw [show d + (36 - t) * q' - t = (d - t) + (36 - t) * q' by omega, Int.add_mul_ediv_left _ _ (by omega), Int.ediv_eq_zero_of_lt (by omega) (by omega)]
        omega
      unfold digs
      rw [htt, if_neg (by omega), e1, e2]
      rw [show (took - at_).toNat = (took - (at_ + 1)).toNat + 1 by omega, List.take_succ_cons, List.map_cons, ← hdg, hlow]
      rw [show t + (d - t) = d by omega, show 36 * at_ + 36 + 36 = 36 * (at_ + 1) + 36 by omega]
      congr 1
      refine digs_fuel _ _ _ _ ?_
      have : q' ≤ (36 - t) * q' := by
        have := Int.mul_le_mul_of_nonneg_right (show (1 : Int) ≤ 36 - t by omega) hq0
        omega
      omega
end Go.Proofs.Ytmhlagakimckjaa.Pure

import Derived.Test.YtmhlagakimckjaaPL
/- What is proved: what is read has one way to be written, for the plain functions. -/
namespace Go.Proofs.Ytmhlagakimckjaa.Pure
open Go.RowKit Go.Proofs.Ytmhlagakimckjaa.Q Go.Proofs.YtmhlagakimckjaaW.PrintWords Go.Proofs.YtmhlagakimckjaaW.PrintLast Go.Proofs.YtmhlagakimckjaaW.PrintMore
set_option linter.unusedVariables false
set_option linter.unusedSimpArgs false

/-- The encoder, in the pass for n, ahead of B. -/
def contE (l : List Int) (b : Int) (ms : List Int) (n : Int) (B : List Int) (st : St) : List Int :=
  encOut l b ms (n + 1) ((encIn n b B st).1, (encIn n b B st).2.1 + 1, (encIn n b B st).2.2)

theorem enc_skip (n b : Int) : ∀ (C D acc : List Int) (delta bias h : Int), (∀ x ∈ C, x ≠ n) → encIn n b (C ++ D) (acc, delta, bias, h) = encIn n b D (acc, delta + (ltF n C).length, bias, h)
  | [], D, acc, delta, bias, h, hc => by simp [ltF]
  | r :: C, D, acc, delta, bias, h, hc => by
    rw [List.cons_append, encIn]
    have hr : ¬ r = n := hc r (by simp)
    by_cases c1 : r < n
    · rw [if_pos c1, enc_skip n b C D acc (delta + 1) bias h (fun x hx => hc x (by simp [hx]))]
      have : (ltF n (r :: C)).length = (ltF n C).length + 1 := by simp [ltF, c1]
      rw [this]
      congr 2
      congr 1
      omega
    · rw [if_neg c1, if_neg hr, enc_skip n b C D acc delta bias h (fun x hx => hc x (by simp [hx]))]
      have : (ltF n (r :: C)).length = (ltF n C).length := by simp [ltF, c1]
      rw [this]

theorem le_lt {n : Int} {l : List Int} (h : ∀ x ∈ l, x ≠ n) : leF n l = ltF n l := by
  refine List.filter_congr fun r hr => ?_
  rw [decide_eq_decide]
  have := h r hr
  omega
theorem ne_of_le {n : Int} {l X : List Int} (h : leF n l = X) (hx : ∀ x ∈ X, x ≠ n) : ∀ x ∈ l, x ≠ n := by
  intro x hm e
  subst e
  exact hx x (by rw [← h]; exact List.mem_filter.2 ⟨hm, by simp⟩) rfl
theorem leF_split {n : Int} {l X Y : List Int} (h : leF n l = X ++ Y) : ∃ A B, l = A ++ B ∧ leF n A = X ∧ leF n B = Y := List.filter_eq_append_iff.1 h
theorem ltF_split {n : Int} {l X Y : List Int} (h : ltF n l = X ++ Y) : ∃ A B, l = A ++ B ∧ ltF n A = X ∧ ltF n B = Y := List.filter_eq_append_iff.1 h
theorem leF_app (n : Int) (A B : List Int) : leF n (A ++ B) = leF n A ++ leF n B := List.filter_append ..
theorem ltF_app (n : Int) (A B : List Int) : ltF n (A ++ B) = ltF n A ++ ltF n B := List.filter_append ..
theorem leF_last {n : Int} {l X : List Int} (h : leF n l = X ++ [n]) : ∃ A B, l = A ++ n :: B ∧ leF n A = X ∧ leF n B = [] := by
  obtain ⟨A, B, rfl, hA, hB⟩ := leF_split h
  obtain ⟨B1, B2, rfl, h1, _, h2⟩ := List.filter_eq_cons_iff.1 hB
  refine ⟨A ++ B1, B2, by simp, ?_, h2⟩
  rw [leF_app, hA]
  have : leF n B1 = [] := List.filter_eq_nil_iff.2 h1
  rw [this, List.append_nil]

theorem once (f : Nat) : ∀ (R out : List Int) (n i bias : Int) (l : List Int), decL f R out n i bias = (l, 0) → R.length ≤ f → 128 ≤ n → n ≤ 1114111 → 0 ≤ i → i ≤ out.length → (∀ x ∈ out, x ≤ n) → (∀ x ∈ out.drop i.toNat, x ≠ n) →
    ∃ A B, l = A ++ B ∧ leF n A = out.take i.toNat ∧ ltF n B = out.drop i.toNat ∧
      ∀ (b : Int) (ms acc : List Int), b ≤ out.length → (i == 0) = ((out.length : Int) == b) → ms.Pairwise (· < ·) → (∀ r, r ∈ ms ↔ r ∈ l ∧ n < r) → contE l b ms n B (acc, 0, bias, out.length) = acc ++ R.map low := by
  induction f with
  | zero =>
    intro R out n i bias l h hR hn0 hn1 hi0 hi1 hle hne
    have hR0 : R = [] := List.length_eq_zero_iff.1 (by omega)
    subst hR0
    unfold decL at h
    injection h with h _
    subst h
    exact once_base hi0 hi1 hle hne
  | succ f ih =>
    intro R out n i bias l h hR hn0 hn1 hi0 hi1 hle hne
    unfold decL at h
    by_cases hR0 : R = []
    · rw [if_pos hR0] at h
      injection h with h _
      subst h
      subst hR0
      exact once_base hi0 hi1 hle hne
    rw [if_neg hR0] at h
    obtain ⟨j, took, hnum⟩ : ∃ j took, num R 0 i 1 bias = (j, took) := ⟨_, _, rfl⟩
    rw [hnum] at h
    simp only at h
    by_cases ht : took = 0
    · rw [if_pos ht] at h; injection h with _ h; cases h
    rw [if_neg ht] at h
    obtain ⟨n', hn'⟩ : ∃ n', n + j / ((out.length : Int) + 1) = n' := ⟨_, rfl⟩
    obtain ⟨i', hi'⟩ : ∃ i', j % ((out.length : Int) + 1) = i' := ⟨_, rfl⟩
    rw [hn', hi'] at h
    by_cases hsc : sc n' = true
    case neg => rw [if_neg hsc] at h; injection h with _ h; cases h
    rw [if_pos hsc] at h
    have hs := of_decide_eq_true hsc
    obtain ⟨q, hq0, hj, hdg⟩ := num_inv bias R 0 i 1 j took hnum ht (Int.le_refl _) hi0 (Int.le_refl _)
    have hsp := num_spec R 0 i 1 bias (Int.le_refl _) hi0 (Int.le_refl _)
    rw [hnum] at hsp
    have htk : 1 ≤ took ∧ took ≤ R.length := by
      rcases hsp with hsp | hsp
      · injection hsp with _ h9; exact absurd h9 ht
      · have := hsp.1; have := hsp.2.1; simp only at *; omega
    rw [Int.one_mul] at hj
    rw [show (36 * (0 : Int) + 36) = 36 by decide, Int.sub_zero] at hdg
    have hm0 : 0 ≤ i' := by rw [← hi']; exact Int.emod_nonneg _ (by omega)
    have hm1 : i' < (out.length : Int) + 1 := by rw [← hi']; exact Int.emod_lt_of_pos _ (by omega)
    have hdiv : 0 ≤ j / ((out.length : Int) + 1) := Int.ediv_nonneg (by omega) (by omega)
    have hdm : ((out.length : Int) + 1) * (n' - n) + i' = i + q := by
      rw [← hi', show n' - n = j / ((out.length : Int) + 1) by omega, Int.mul_ediv_add_emod, hj]
    have hnn : n ≤ n' := by omega
    have hlen : (out.take i'.toNat ++ n' :: out.drop i'.toNat).length = out.length + 1 := by simp; omega
    have hl1 : (out.take i'.toNat).length = i'.toNat := by rw [List.length_take]; omega
    have htake : (out.take i'.toNat ++ n' :: out.drop i'.toNat).take (i' + 1).toNat = out.take i'.toNat ++ [n'] := by
      rw [show out.take i'.toNat ++ n' :: out.drop i'.toNat = (out.take i'.toNat ++ [n']) ++ out.drop i'.toNat by simp]
      exact List.take_left' (by simp; omega)
    have hdrop : (out.take i'.toNat ++ n' :: out.drop i'.toNat).drop (i' + 1).toNat = out.drop i'.toNat := by
      rw [show out.take i'.toNat ++ n' :: out.drop i'.toNat = (out.take i'.toNat ++ [n']) ++ out.drop i'.toNat by simp]
      exact List.drop_left' (by simp; omega)
    have hcase : (n' = n ∧ i' = i + q) ∨ n < n' := by
      rcases Int.lt_or_eq_of_le hnn with h1 | h1
      · exact .inr h1
      · refine .inl ⟨h1.symm, ?_⟩
        rw [h1, Int.sub_self, Int.mul_zero] at hdm
        omega
    have hne' : ∀ x ∈ out.drop i'.toNat, x ≠ n' := by
      intro x hx
      rcases hcase with ⟨h1, h2⟩ | h1
      · rw [h1]
        refine hne x ?_
        have : out.drop i'.toNat = (out.drop i.toNat).drop (i'.toNat - i.toNat) := by rw [List.drop_drop]; congr 1; omega
        rw [this] at hx
        exact List.mem_of_mem_drop hx
      · have := hle x (List.mem_of_mem_drop hx)
        omega
    obtain ⟨A', B', hl, hA', hB', hE⟩ := ih (R.drop took.toNat) _ n' (i' + 1) _ l h (by rw [List.length_drop]; omega) (by omega) (by omega) (by omega) (by rw [hlen]; omega)
      (fun x hx => by
        rcases List.mem_append.1 hx with hx | hx
        · have := hle x (List.mem_of_mem_take hx); omega
        · rcases List.mem_cons.1 hx with rfl | hx
          · exact Int.le_refl _
          · have := hle x (List.mem_of_mem_drop hx); omega)
      (by rw [hdrop]; exact hne')
    rw [htake] at hA'
    rw [hdrop] at hB'
    rw [hlen] at hE
    obtain ⟨A1, A2, rfl, hA1, hA2⟩ := leF_last hA'
    have hA2ne : ∀ x ∈ A2, x ≠ n' := ne_of_le hA2 (by simp)
    have hA2lt : ltF n' A2 = [] := by rw [← le_lt hA2ne]; exact hA2
    -- what follows once n' is met
    have hgo : ∀ (b : Int) (ms acc : List Int), b ≤ out.length → (i == 0) = ((out.length : Int) == b) → ms.Pairwise (· < ·) → (∀ r, r ∈ ms ↔ r ∈ l ∧ n' < r) →
        contE l b ms n' (n' :: (A2 ++ B')) (acc, q, bias, out.length) = acc ++ R.map low := by
      intro b ms acc hb hf hp hm
      have e := hE b ms (acc ++ digs (q.toNat + 1) q 36 bias) (by omega) (by rw [show (i' + 1 == 0) = false by rw [beq_eq_false_iff_ne]; omega, show (((out.length + 1 : Nat) : Int) == b) = false by rw [beq_eq_false_iff_ne]; omega]) hp hm
      unfold contE at e ⊢
      rw [encIn, if_neg (Int.lt_irrefl _), if_pos rfl, enc_skip n' b A2 B' _ _ _ _ hA2ne, hA2lt]
      rw [show j - i = q by omega, hf] at e
      simp only [List.length_nil]
      rw [show (0 : Int) + ((0 : Nat) : Int) = 0 by rfl]
      rw [show ((out.length + 1 : Nat) : Int) = (out.length : Int) + 1 by omega] at e
      rw [e, hdg, List.append_assoc, ← List.map_append, List.take_append_drop]
    rw [show A1 ++ n' :: A2 ++ B' = A1 ++ n' :: (A2 ++ B') by simp] at hl
    rcases hcase with ⟨h1, h2⟩ | h1
    · -- the same pass goes on
      subst h1
      have hA1' : leF n' A1 = out.take i.toNat ++ (out.drop i.toNat).take q.toNat := by
        rw [hA1, show i'.toNat = i.toNat + q.toNat by omega, List.take_add]
      obtain ⟨A, C, rfl, hA, hC⟩ := leF_split hA1'
      have hCne : ∀ x ∈ C, x ≠ n' := ne_of_le hC (fun x hx => hne x (List.mem_of_mem_take hx))
      have hClt : ltF n' C = (out.drop i.toNat).take q.toNat := by rw [← le_lt hCne]; exact hC
      refine ⟨A, C ++ n' :: (A2 ++ B'), by rw [hl]; simp, hA, ?_, ?_⟩
      · rw [ltF_app, hClt]
        have : ltF n' (n' :: (A2 ++ B')) = out.drop i'.toNat := by
          rw [show n' :: (A2 ++ B') = [n'] ++ (A2 ++ B') by simp, ltF_app, ltF_app, hA2lt, hB']
          simp [ltF]
        rw [this, show i'.toNat = i.toNat + q.toNat by omega, ← List.drop_drop, List.take_append_drop]
      · intro b ms acc hb hf hp hm
        have := hgo b ms acc hb hf hp hm
        unfold contE at this ⊢
        rw [enc_skip n' b C _ _ _ _ _ hCne, hClt]
        have hql : ((out.drop i.toNat).take q.toNat).length = q.toNat := by rw [List.length_take, List.length_drop]; omega
        rw [hql, show (0 : Int) + ((q.toNat : Nat) : Int) = q by omega]
        exact this
    · -- this pass ends; the next is for n'
      have hltl : ltF n' l = out := by
        rw [hl, ltF_app, show n' :: (A2 ++ B') = [n'] ++ (A2 ++ B') by simp, ltF_app, ltF_app, hA2lt, hB']
        have hA1ne : ∀ x ∈ A1, x ≠ n' := ne_of_le hA1 (fun x hx => by have := hle x (List.mem_of_mem_take hx); omega)
        rw [← le_lt hA1ne, hA1]
        simp [ltF]
      have hlel : leF n l = out := by
        have h5 : leF n l = leF n (ltF n' l) := by
          unfold leF ltF
          rw [List.filter_filter]
          refine List.filter_congr fun r hr => ?_
          by_cases c : r ≤ n
          · rw [decide_eq_true c, decide_eq_true (show r < n' by omega)]; rfl
          · rw [decide_eq_false c]; rfl
        rw [h5, hltl]
        exact List.filter_eq_self.2 fun x hx => decide_eq_true (hle x hx)
      obtain ⟨A, B, hAB, hA, hB⟩ := leF_split (show leF n l = out.take i.toNat ++ out.drop i.toNat by rw [hlel, List.take_append_drop])
      have hBne : ∀ x ∈ B, x ≠ n := ne_of_le hB hne
      have hBlt : ltF n B = out.drop i.toNat := by rw [← le_lt hBne]; exact hB
      refine ⟨A, B, hAB, hA, hBlt, ?_⟩
      intro b ms acc hb hf hp hm
      have hn'l : n' ∈ l := by rw [hl]; simp
      match ms, hp, hm with
      | [], hp, hm => exact absurd ((hm n').2 ⟨hn'l, h1⟩) (by simp)
      | m :: ms, hp, hm =>
        have hml := (hm m).1 (by simp)
        have hmn : m = n' := by
          have hle1 : m ≤ n' := by
            rcases List.mem_cons.1 ((hm n').2 ⟨hn'l, h1⟩) with h6 | h6
            · omega
            · have := (List.pairwise_cons.1 hp).1 n' h6; omega
          rcases Int.lt_or_eq_of_le hle1 with h6 | h6
          · have h7 : m ∈ ltF n' l := List.mem_filter.2 ⟨hml.1, decide_eq_true h6⟩
            rw [hltl] at h7
            have := hle m h7
            omega
          · exact h6
        subst hmn
        have hrest : ∀ r, r ∈ ms ↔ r ∈ l ∧ m < r := fun r => by
          refine ⟨fun hr => ⟨((hm r).1 (List.mem_cons_of_mem _ hr)).1, (List.pairwise_cons.1 hp).1 r hr⟩, fun ⟨h8, h9⟩ => ?_⟩
          rcases List.mem_cons.1 ((hm r).2 ⟨h8, by omega⟩) with h10 | h10
          · omega
          · exact h10
        have hg := hgo b ms acc hb hf (List.pairwise_cons.1 hp).2 hrest
        have hBs := enc_skip n b B [] acc 0 bias out.length hBne
        rw [List.append_nil, encIn, hBlt] at hBs
        unfold contE at hg ⊢
        rw [hBs, encOut]
        have hA1ne : ∀ x ∈ A1, x ≠ m := ne_of_le hA1 (fun x hx => by have := hle x (List.mem_of_mem_take hx); omega)
        have hA1lt : ltF m A1 = out.take i'.toNat := by rw [← le_lt hA1ne]; exact hA1
        have hd : (0 : Int) + ((out.drop i.toNat).length : Int) + 1 + (m - (n + 1)) * ((out.length : Int) + 1) + ((out.take i'.toNat).length : Int) = q := by
          rw [hl1, List.length_drop]
          have e1 : (m - (n + 1)) * ((out.length : Int) + 1) = ((out.length : Int) + 1) * (m - n) - ((out.length : Int) + 1) := by
            rw [show m - (n + 1) = (m - n) - 1 by omega, Int.sub_mul, Int.one_mul, Int.mul_comm]
          omega
        have hs2 := enc_skip m b A1 (m :: (A2 ++ B')) acc (0 + ((out.drop i.toNat).length : Int) + 1 + (m - (n + 1)) * ((out.length : Int) + 1)) bias out.length hA1ne
        rw [← hl, hA1lt, hd] at hs2
        simp only
        rw [hs2]
        exact hg
where
  once_base {out : List Int} {n i bias : Int} (hi0 : 0 ≤ i) (hi1 : i ≤ out.length) (hle : ∀ x ∈ out, x ≤ n) (hne : ∀ x ∈ out.drop i.toNat, x ≠ n) :
    ∃ A B, out = A ++ B ∧ leF n A = out.take i.toNat ∧ ltF n B = out.drop i.toNat ∧
      ∀ (b : Int) (ms acc : List Int), b ≤ out.length → (i == 0) = ((out.length : Int) == b) → ms.Pairwise (· < ·) → (∀ r, r ∈ ms ↔ r ∈ out ∧ n < r) → contE out b ms n B (acc, 0, bias, out.length) = acc ++ ([] : List Int).map low := by
    have hB : ltF n (out.drop i.toNat) = out.drop i.toNat := List.filter_eq_self.2 fun x hx => decide_eq_true (by
      have := hle x (List.mem_of_mem_drop hx)
      have := hne x hx
      omega)
    refine ⟨out.take i.toNat, out.drop i.toNat, (List.take_append_drop _ _).symm, List.filter_eq_self.2 fun x hx => decide_eq_true (hle x (List.mem_of_mem_take hx)), hB, ?_⟩
    intro b ms acc hb hf hp hm
    have hms : ms = [] := by
      rcases ms with _ | ⟨m, ms⟩
      · rfl
      · have := (hm m).1 (by simp)
        have := hle m this.1
        omega
    subst hms
    have hs := enc_skip n b (out.drop i.toNat) [] acc 0 bias out.length hne
    rw [List.append_nil, encIn] at hs
    unfold contE
    rw [hs]
    simp [encOut]
end Go.Proofs.Ytmhlagakimckjaa.Pure

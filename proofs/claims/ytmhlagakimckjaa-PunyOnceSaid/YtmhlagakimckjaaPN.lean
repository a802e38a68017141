import Derived.Test.YtmhlagakimckjaaPM
/- What is proved: what Decode reads, Encode writes as it was read, but for capitals behind the last hyphen: the plain functions. -/
namespace Go.Proofs.Ytmhlagakimckjaa.Pure
open Go.RowKit Go.Proofs.Ytmhlagakimckjaa.Q Go.Proofs.YtmhlagakimckjaaW.PrintWords Go.Proofs.YtmhlagakimckjaaW.PrintLast Go.Proofs.YtmhlagakimckjaaW.PrintMore
set_option linter.unusedVariables false
set_option linter.unusedSimpArgs false

theorem decL_len2 (f : Nat) : ∀ (rest out : List Int) (n i bias : Int), 0 ≤ i → (decL f rest out n i bias).1.length ≤ out.length + rest.length := by
  induction f with
  | zero => intro rest out n i bias hi; simp only [decL]; omega
  | succ f ih =>
    intro rest out n i bias hi
    unfold decL
    split
    · simp only; omega
    split
    · simp
    rename_i hne ht
    split
    · have hsp := num_spec rest 0 i 1 bias (by omega) hi (by omega)
      have hj : 1 ≤ (num rest 0 i 1 bias).2 ∧ (num rest 0 i 1 bias).2 ≤ rest.length := by
        rcases hsp with hsp | hsp
        · exact absurd (congrArg Prod.snd hsp) ht
        · omega
      have hm0 : 0 ≤ (num rest 0 i 1 bias).1 % ((out.length : Int) + 1) := Int.emod_nonneg _ (by omega)
      refine Nat.le_trans (ih _ _ _ _ _ (by omega)) ?_
      simp only [List.length_append, List.length_take, List.length_cons, List.length_drop]
      omega
    · simp

theorem decL_valid (f : Nat) : ∀ (rest out : List Int) (n i bias : Int), 0 ≤ i → 128 ≤ n → valid out = true → valid (decL f rest out n i bias).1 = true := by
  induction f with
  | zero => intro rest out n i bias hi hn hv; simpa only [decL] using hv
  | succ f ih =>
    intro rest out n i bias hi hn hv
    unfold decL
    split
    · exact hv
    split
    · rfl
    rename_i hne ht
    split
    · rename_i hsc
      have hs := of_decide_eq_true hsc
      have hsp := num_spec rest 0 i 1 bias (by omega) hi (by omega)
      have hj : 0 ≤ (num rest 0 i 1 bias).1 := by
        rcases hsp with hsp | hsp
        · exact absurd (congrArg Prod.snd hsp) ht
        · omega
      have hq : 0 ≤ (num rest 0 i 1 bias).1 / ((out.length : Int) + 1) := Int.ediv_nonneg hj (by omega)
      have hm0 : 0 ≤ (num rest 0 i 1 bias).1 % ((out.length : Int) + 1) := Int.emod_nonneg _ (by omega)
      refine ih _ _ _ _ _ (by omega) (by omega) ?_
      unfold valid at hv ⊢
      rw [List.all_eq_true] at hv ⊢
      intro x hx
      rcases List.mem_append.1 hx with hx | hx
      · exact hv x (List.mem_of_mem_take hx)
      · rcases List.mem_cons.1 hx with rfl | hx
        · unfold Go.Lib.validRune
          rw [decide_eq_true_eq]
          omega
        · exact hv x (List.mem_of_mem_drop hx)
    · rfl

theorem once_enc {R out l : List Int} (h : decL 64 R out 128 0 72 = (l, 0)) (hR : R.length ≤ 64) (hout : ∀ x ∈ out, x < 128) : basics l = out ∧ encO l = start l ++ R.map low := by
  obtain ⟨A, B, hl, hA, hB, hE⟩ := once 64 R out 128 0 72 l h hR (Int.le_refl _) (by decide) (Int.le_refl _) (by omega) (fun x hx => by have := hout x hx; omega) (fun x hx => by have := hout x (List.mem_of_mem_drop hx); omega)
  rw [show ((0 : Int)).toNat = 0 by rfl, List.take_zero] at hA
  rw [show ((0 : Int)).toNat = 0 by rfl, List.drop_zero] at hB
  have hAne : ∀ x ∈ A, x ≠ 128 := ne_of_le hA (by simp)
  have hAlt : ltF 128 A = [] := by rw [← le_lt hAne]; exact hA
  have hbas : basics l = out := by
    show ltF 128 l = out
    rw [hl, ltF_app, hAlt, hB, List.nil_append]
  refine ⟨hbas, ?_⟩
  unfold encO
  rw [hbas]
  have hkp := kinds_pair l
  have hkm := mem_kinds l
  by_cases h128 : (128 : Int) ∈ l
  · have hk : ∃ ms, kinds l = 128 :: ms := by
      rcases hks : kinds l with _ | ⟨m, ms⟩
      · exact absurd ((hkm 128).2 ⟨h128, Int.le_refl _⟩) (by rw [hks]; simp)
      · refine ⟨ms, ?_⟩
        have h1 := (hkm m).1 (by rw [hks]; simp)
        rw [hks] at hkp
        have h2 := (hkm 128).2 ⟨h128, Int.le_refl _⟩
        rw [hks] at h2
        rcases List.mem_cons.1 h2 with h3 | h3
        · rw [← h3]
        · have := (List.pairwise_cons.1 hkp).1 128 h3
          omega
    obtain ⟨ms, hk⟩ := hk
    rw [hk] at hkp hkm ⊢
    have e := hE out.length ms (start l) (Int.le_refl _) (by simp) (List.pairwise_cons.1 hkp).2 (fun r => by
      refine ⟨fun hr => ⟨((hkm r).1 (List.mem_cons_of_mem _ hr)).1, (List.pairwise_cons.1 hkp).1 r hr⟩, fun ⟨h8, h9⟩ => ?_⟩
      rcases List.mem_cons.1 ((hkm r).2 ⟨h8, by omega⟩) with h10 | h10
      · omega
      · exact h10)
    rw [← e]
    unfold contE
    rw [encOut]
    have hs := enc_skip 128 out.length A B (start l) (0 + (128 - 128) * ((out.length : Int) + 1)) 72 out.length hAne
    rw [← hl, hAlt] at hs
    simp only [List.length_nil] at hs
    rw [hs]
    rw [show (0 : Int) + (128 - 128) * ((out.length : Int) + 1) + ((0 : Nat) : Int) = 0 by rw [Int.sub_self, Int.zero_mul]; rfl]
  · have e := hE out.length (kinds l) (start l) (Int.le_refl _) (by simp) hkp (fun r => by
      rw [hkm r]
      refine ⟨fun ⟨h8, h9⟩ => ⟨h8, ?_⟩, fun ⟨h8, h9⟩ => ⟨h8, by omega⟩⟩
      rcases Int.lt_or_eq_of_le h9 with h10 | h10
      · exact h10
      · subst h10; exact absurd h8 h128)
    rw [← e]
    unfold contE
    have hBne : ∀ x ∈ B, x ≠ 128 := fun x hx h => h128 (by rw [hl, ← h]; simp [hx])
    have hs := enc_skip 128 out.length B [] (start l) 0 72 out.length hBne
    rw [List.append_nil, encIn, hB] at hs
    rw [hs]
    match kinds l with
    | [] => rfl
    | m :: ms =>
      unfold encOut
      have hd : (0 : Int) + ((out.length : Nat) : Int) + 1 + (m - (128 + 1)) * ((out.length : Int) + 1) = 0 + (m - 128) * ((out.length : Int) + 1) := by
        rw [show m - 128 = (m - (128 + 1)) + 1 by omega, Int.add_mul, Int.one_mul]
        omega
      simp only
      rw [hd]

def lowS (bs : List Int) : List Int := if 0 < lastH bs 0 0 then bs.take (lastH bs 0 0 + 1).toNat ++ (bs.drop (lastH bs 0 0 + 1).toNat).map low else bs.map low

theorem high_lt {l : List Int} (h : high l = false) : ∀ x ∈ l, x < 128 := by
  intro x hx
  unfold high at h
  rw [List.any_eq_false] at h
  have := h x hx
  simpa using this

/-- What is read has one way to be written. -/
theorem onceS (s : ByteArray) (l : List Int) (h : decS s = (l, 0)) : encS l = (strOfNums (lowS (bytesOf s)), 0) ∧ s.size ≤ 63 ∧ l.length ≤ 63 ∧ ∀ r ∈ l, 0 ≤ r ∧ r ≤ 1114111 := by
  unfold decS at h
  by_cases c1 : 63 < s.size
  · rw [if_pos c1] at h; injection h with _ h; cases h
  rw [if_neg c1] at h
  by_cases c2 : high (bytesOf s) = true
  · rw [if_pos c2] at h; injection h with _ h; cases h
  rw [if_neg c2] at h
  have hlt := high_lt (by simpa using c2)
  have hrg := byte_range s
  have hbl := bytesOf_length s
  have fin : ∀ (R out : List Int), decL 64 R out 128 0 72 = (l, 0) → R.length ≤ 63 → out.length + R.length ≤ 63 → (∀ x ∈ out, 0 ≤ x ∧ x < 128) → (start l ++ R.map low = lowS (bytesOf s)) → (start l).length + R.length ≤ 63 →
      encS l = (strOfNums (lowS (bytesOf s)), 0) ∧ s.size ≤ 63 ∧ l.length ≤ 63 ∧ ∀ r ∈ l, 0 ≤ r ∧ r ≤ 1114111 := by
    intro R out hd hR hlen hob he hsl
    obtain ⟨hb, ho⟩ := once_enc hd (by omega) (fun x hx => (hob x hx).2)
    have hl : l.length ≤ 63 := by
      have := decL_len2 64 R out 128 0 72 (Int.le_refl _)
      rw [hd] at this
      simp only at this
      omega
    have hv : valid l = true := by
      have := decL_valid 64 R out 128 0 72 (Int.le_refl _) (Int.le_refl _) (by
        unfold valid
        rw [List.all_eq_true]
        intro x hx
        have := hob x hx
        unfold Go.Lib.validRune
        rw [decide_eq_true_eq]
        omega)
      rw [hd] at this
      exact this
    refine ⟨?_, by omega, hl, valid_bd hv⟩
    unfold encS
    rw [if_neg (by omega), if_pos hv, if_neg (by rw [ho, List.length_append, List.length_map]; omega), ho, he]
  by_cases c3 : 0 < lastH (bytesOf s) 0 0
  · rw [if_pos c3] at h
    have hc : lastH (bytesOf s) 0 0 < s.size ∧ (bytesOf s)[(lastH (bytesOf s) 0 0).toNat]? = some 45 := by
      rcases Lib.lastIndexByte_spec s 45 with ⟨e, hn⟩ | ⟨i, hi, e, hc, hn⟩
      · rcases last_eq s with ⟨h1, h2⟩ | ⟨h1, h2, h3⟩ <;> omega
      · rcases last_eq s with ⟨h1, h2⟩ | ⟨h1, h2, h3⟩
        · omega
        · rw [h2, e]
          refine ⟨by omega, ?_⟩
          rw [Int.toNat_natCast, bytes_get s i hi, hc]
    obtain ⟨c, hcc⟩ : ∃ c : Nat, lastH (bytesOf s) 0 0 = (c : Int) := ⟨(lastH (bytesOf s) 0 0).toNat, by omega⟩
    rw [hcc] at h hc c3
    rw [show ((c : Int) + 1).toNat = c + 1 by omega, Int.toNat_natCast] at h
    rw [Int.toNat_natCast] at hc
    have hcs : c < s.size := by omega
    have htl : ((bytesOf s).take c).length = c := by rw [List.length_take]; omega
    have hdl : ((bytesOf s).drop (c + 1)).length = s.size - (c + 1) := by rw [List.length_drop, hbl]
    have hbas : basics l = (bytesOf s).take c := (once_enc h (by omega) (fun x hx => hlt x (List.mem_of_mem_take hx))).1
    have hst : start l = (bytesOf s).take (c + 1) := by
      unfold start
      rw [hbas, htl, if_pos (by omega), List.take_add_one, hc.2]
      rfl
    refine fin _ _ h (by omega) (by omega) (fun x hx => ⟨(hrg x (List.mem_of_mem_take hx)).1, hlt x (List.mem_of_mem_take hx)⟩) ?_ ?_
    · unfold lowS
      rw [hcc, if_pos c3, hst, show ((c : Int) + 1).toNat = c + 1 by omega]
    · rw [hst, hdl, List.length_take]; omega
  · rw [if_neg c3] at h
    have hbas : basics l = [] := (once_enc h (by omega) (by simp)).1
    have hst : start l = [] := by unfold start; rw [hbas]; rfl
    refine fin _ _ h (by omega) (by simp; omega) (by simp) ?_ ?_
    · unfold lowS
      rw [if_neg c3, hst, List.nil_append]
    · rw [hst]; simp; omega

theorem decS_bad (s : ByteArray) : (decS s).2 = 0 ∨ (decS s).1 = [] := by
  have hL : ∀ (f : Nat) (rest out : List Int) (n i bias : Int), (decL f rest out n i bias).2 = 0 ∨ (decL f rest out n i bias).1 = [] := by
    intro f
    induction f with
    | zero => intro rest out n i bias; exact .inl rfl
    | succ f ih =>
      intro rest out n i bias
      unfold decL
      split
      · exact .inl rfl
      split
      · exact .inr rfl
      split
      · exact ih _ _ _ _ _
      · exact .inr rfl
  unfold decS
  split
  · exact .inr rfl
  split
  · exact .inr rfl
  split
  · exact hL _ _ _ _ _ _
  · exact hL _ _ _ _ _ _
end Go.Proofs.Ytmhlagakimckjaa.Pure

import Derived.Test.YtmhlagakimckjaaPurE
/- What is proved: the document's Encode is the plain function, too. -/
namespace Go.Proofs.Ytmhlagakimckjaa.Pure
open Go.RowKit Go.Proofs.Ytmhlagakimckjaa.Q Go.Proofs.YtmhlagakimckjaaW.PrintWords Go.Proofs.YtmhlagakimckjaaW.PrintLast Go.Proofs.YtmhlagakimckjaaW.PrintMore
set_option linter.unusedVariables false
set_option linter.unusedSimpArgs false

theorem rScal (n : Int) : portcullisref01_Scalar.f n = some (Go.Lib.validRune n) := by
  unfold portcullisref01_Scalar.f Go.Lib.validRune
  by_cases a : n ≥ 0
  · rw [if_pos a]
    by_cases b : n ≤ 1114111
    · rw [if_pos b]
      by_cases c : n < 55296
      · rw [if_pos c]; congr 1; symm; rw [decide_eq_true_eq]; omega
      · rw [if_neg c]; congr 1; rw [decide_eq_decide]; omega
    · rw [if_neg b]; congr 1; symm; rw [decide_eq_false_iff_not]; omega
  · rw [if_neg a]; congr 1; symm; rw [decide_eq_false_iff_not]; omega

theorem rLet (d : Int) (h0 : 0 ≤ d) (h1 : d ≤ 35) : portcullisref05_letter.f d = some (ltr d) := by
  unfold portcullisref05_letter.f ltr
  rw [w64 (n := 97 + d) (by omega) (by omega), w64 (n := 48 + d) (by omega) (by omega), w64 (n := 48 + d - 26) (by omega) (by omega)]
  by_cases c : d < 26
  · rw [if_pos c, if_pos c]; congr 1; omega
  · rw [if_neg c, if_neg c]; congr 1; omega

theorem rThr2 (k bias : Int) (b0 : 0 ≤ bias) (b1 : bias ≤ 1000) (k0 : 0 ≤ k) (k1 : k ≤ 1000000000000000) : portcullisref05_threshold.f k bias = some (thr k bias) := by
  unfold portcullisref05_threshold.f thr
  rw [w64 (n := bias + 26) (by omega) (by omega), w64 (n := k - bias) (by omega) (by omega)]
  by_cases a : k ≤ bias
  · rw [if_pos a]; congr 1; omega
  · rw [if_neg a]
    by_cases b : k ≥ bias + 26
    · rw [if_pos b]; congr 1; omega
    · rw [if_neg b]; congr 1; omega

theorem rE_l4 (l : List Int) (b n delta bias h p : Int) (b0 : 0 ≤ bias) (b1 : bias ≤ 1000) (v : ByteArray × Int) (F : Nat) : ∀ (q kk : Int) (acc : List Int), q.toNat + 1 ≤ F → 0 ≤ q → 0 ≤ kk → kk + 36 * q ≤ 1000000000000 → (acc.length : Int) + q + 1 ≤ 10000000000000 →
    Ev (fun k => (portcullisref05_Adapt.f k delta (wrap64 (h + 1)) (h == b)).bind fun t => portcullisref05_Encode.l3 k l (acc ++ digs F q kk bias) b n 0 t (wrap64 (h + 1)) (wrap64 (p + 1))) v →
    Ev (fun k => portcullisref05_Encode.l4 k l acc b n delta bias h p q kk) v := by
  induction F with
  | zero => intro q kk acc h1; omega
  | succ F ih =>
    intro q kk acc hF hq hk hkq ha H
    refine Ev.of_eq1 (fun k => by rw [portcullisref05_Encode.l4]) ?_
    rw [rThr2 kk bias b0 b1 hk (by omega)]
    have ht := thr_bd kk bias
    unfold digs at H
    obtain ⟨t, htt⟩ : ∃ t, thr kk bias = t := ⟨_, rfl⟩
    rw [htt] at ht H ⊢
    simp only [Option.bind_some]
    by_cases c : q < t
    · simp only [if_pos c] at H ⊢
      rw [rLet q hq (by omega)]
      simp only [Option.bind_some, if_pos (show acc.length < 140737488355328 by omega)]
      exact H
    · simp only [if_neg c] at H ⊢
      have hqq := quo_less (by omega : t ≤ q) ht.1 ht.2
      have e1 : wrap64 (36 - t) = 36 - t := w64 (by omega) (by omega)
      have e2 : wrap64 (q - t) = q - t := w64 (by omega) (by omega)
      have e3 : Int.tmod (q - t) (36 - t) = (q - t) % (36 - t) := Int.tmod_eq_emod_of_nonneg (by omega)
      have e4 : Int.tdiv (q - t) (36 - t) = (q - t) / (36 - t) := Int.tdiv_eq_ediv_of_nonneg (by omega)
      have e5 : wrap64 (t + (q - t) % (36 - t)) = t + (q - t) % (36 - t) := w64 (by omega) (by omega)
      have e6 : wrap64 ((q - t) / (36 - t)) = (q - t) / (36 - t) := w64 (by omega) (by omega)
      have e7 : wrap64 (kk + 36) = kk + 36 := w64 (by omega) (by omega)
      simp only [e1, e2, e3, e4, e5, e6, e7, if_neg (show ¬ 36 - t = 0 by omega)]
      rw [rLet (t + (q - t) % (36 - t)) (by omega) (by omega)]
      simp only [Option.bind_some, if_pos (show acc.length < 140737488355328 by omega)]
      refine ih ((q - t) / (36 - t)) (kk + 36) (acc ++ [ltr (t + (q - t) % (36 - t))]) (by omega) hqq.1 (by omega) (by omega) (by simp only [List.length_append, List.length_singleton]; omega) ?_
      rw [List.append_assoc]
      exact H

theorem w1p {p m : Nat} (h : p < m) (hm : m ≤ 63) : wrap64 ((p : Int) + 1) = ((p + 1 : Nat) : Int) := by rw [w64 (by omega) (by omega)]; rfl

theorem rE_l3 (l : List Int) (hl : l.length ≤ 63) (hv : valid l = true) (b n : Int) (v : ByteArray × Int) : ∀ (q p : Nat) (st : St) (D : Int), p + q = l.length → Ok D st → D + q ≤ 9999999999 → st.2.2.2 + cntEq n (l.drop p) ≤ 63 →
    Ev (fun k => portcullisref05_Encode.l1 k l (encIn n b (l.drop p) st).1 b (wrap32 (n + 1)) (wrap64 ((encIn n b (l.drop p) st).2.1 + 1)) (encIn n b (l.drop p) st).2.2.1 (encIn n b (l.drop p) st).2.2.2) v →
    Ev (fun k => portcullisref05_Encode.l3 k l st.1 b n st.2.1 st.2.2.1 st.2.2.2 p) v
  | 0, p, st, D, hp, hk, hD, hc, H => by
    refine Ev.of_eq1 (fun k => by rw [portcullisref05_Encode.l3]) ?_
    rw [List.drop_of_length_le (by omega)] at H
    simp only [if_neg (show ¬ (p : Int) < (l.length : Int) by omega)]
    exact H
  | q + 1, p, (out, delta, bias, h), D, hp, hk, hD, hc, H => by
    refine Ev.of_eq1 (fun k => by rw [portcullisref05_Encode.l3]) ?_
    obtain ⟨h0, h1, h2, h3, h4, h5⟩ := hk
    simp only at h0 h1 h2 h3 h4 h5 hc
    rw [rd_drop l p (by omega)] at H hc
    simp only [cntEq, List.countP_cons] at hc
    simp only [if_pos (show (p : Int) < (l.length : Int) by omega), if_pos (show 0 ≤ (p : Int) by omega)]
    unfold encIn at H
    by_cases c1 : rd l p < n
    · simp only [if_pos c1] at H ⊢
      rw [w64 (n := delta + 1) (by omega) (by omega)]
      rw [decide_eq_false (show ¬ rd l p = n by omega)] at hc
      refine Ev.of_eq1 (fun k => by rw [portcullisref05_Encode.j5]) ?_
      simp only [if_pos (show (p : Int) < (l.length : Int) by omega), if_pos (show 0 ≤ (p : Int) by omega), if_neg (show ¬ rd l p = n by omega), w1p (show p < l.length by omega) hl]
      exact rE_l3 l hl hv b n v q (p + 1) (out, delta + 1, bias, h) (D + 1) (by omega) ⟨by simp only; omega, by simp only; omega, h2, h3, h4, h5⟩ (by omega) (by simpa [cntEq] using hc) H
    · simp only [if_neg c1] at H ⊢
      refine Ev.of_eq1 (fun k => by rw [portcullisref05_Encode.j5]) ?_
      simp only [if_pos (show (p : Int) < (l.length : Int) by omega), if_pos (show 0 ≤ (p : Int) by omega)]
      by_cases c2 : rd l p = n
      · simp only [if_pos c2] at H ⊢
        rw [decide_eq_true c2] at hc
        simp only [if_true] at hc
        refine rE_l4 l b n delta bias h p h2 h3 v (delta.toNat + 1) delta 36 out (by omega) h0 (by omega) (by omega) (by omega) ?_
        rw [w64 (n := h + 1) (by omega) (by omega)]
        refine Ev.bind (rA _ _ _ (by omega)) ?_
        have ha := adp_bd delta (h + 1) (h == b)
        have hd := digs_len (delta.toNat + 1) delta 36 bias
        simp only [w1p (show p < l.length by omega) hl]
        exact rE_l3 l hl hv b n v q (p + 1) (out ++ digs (delta.toNat + 1) delta 36 bias, 0, adp delta (h + 1) (h == b), h + 1) D (by omega)
          ⟨by simp only; omega, by simp only; omega, by simp only; omega, by simp only; omega, by simp only; omega, by simp only [List.length_append]; omega⟩ (by omega) (by simp only [cntEq]; omega) H
      · simp only [if_neg c2] at H ⊢
        rw [decide_eq_false c2] at hc
        simp only [w1p (show p < l.length by omega) hl]
        exact rE_l3 l hl hv b n v q (p + 1) (out, delta, bias, h) D (by omega) ⟨h0, h1, h2, h3, h4, h5⟩ (by omega) (by simpa [cntEq] using hc) H

/-- The least that is not below n. -/
def mnG (n : Int) : List Int → Int → Int
  | [], m => m
  | r :: l, m => if r ≥ n then (if r < m then mnG n l r else mnG n l m) else mnG n l m
theorem mnG_spec (n : Int) : ∀ (l : List Int) (m : Int), (mnG n l m = m ∨ (mnG n l m ∈ l ∧ n ≤ mnG n l m)) ∧ mnG n l m ≤ m ∧ ∀ r ∈ l, n ≤ r → mnG n l m ≤ r
  | [], m => by simp [mnG]
  | r :: l, m => by
    unfold mnG
    by_cases h1 : r ≥ n
    · rw [if_pos h1]
      by_cases h2 : r < m
      · rw [if_pos h2]
        obtain ⟨a, b, c⟩ := mnG_spec n l r
        refine ⟨.inr ?_, by omega, fun x hx hn => ?_⟩
        · rcases a with a | a
          · rw [a]; exact ⟨by simp, h1⟩
          · exact ⟨List.mem_cons_of_mem _ a.1, a.2⟩
        · rcases List.mem_cons.1 hx with rfl | hx
          · exact b
          · exact c x hx hn
      · rw [if_neg h2]
        obtain ⟨a, b, c⟩ := mnG_spec n l m
        refine ⟨a.imp id fun a => ⟨List.mem_cons_of_mem _ a.1, a.2⟩, b, fun x hx hn => ?_⟩
        rcases List.mem_cons.1 hx with rfl | hx
        · omega
        · exact c x hx hn
    · rw [if_neg h1]
      obtain ⟨a, b, c⟩ := mnG_spec n l m
      refine ⟨a.imp id fun a => ⟨List.mem_cons_of_mem _ a.1, a.2⟩, b, fun x hx hn => ?_⟩
      rcases List.mem_cons.1 hx with rfl | hx
      · omega
      · exact c x hx hn

theorem rE_l2 (l : List Int) (hl : l.length ≤ 63) (b n delta bias h : Int) (out : List Int) (v : ByteArray × Int) : ∀ (q p : Nat) (m : Int), p + q = l.length →
    Ev (fun k => portcullisref05_Encode.l3 k l out b (mnG n (l.drop p) m) (wrap64 (delta + (wrap64 ((wrap64 (wrap32 (mnG n (l.drop p) m - n))) * (wrap64 (h + 1)))))) bias h 0) v →
    Ev (fun k => portcullisref05_Encode.l2 k l out b n delta bias h m p) v
  | 0, p, m, hp, H => by
    refine Ev.of_eq1 (fun k => by rw [portcullisref05_Encode.l2]) ?_
    rw [List.drop_of_length_le (by omega)] at H
    simp only [if_neg (show ¬ (p : Int) < (l.length : Int) by omega)]
    exact H
  | q + 1, p, m, hp, H => by
    refine Ev.of_eq1 (fun k => by rw [portcullisref05_Encode.l2]) ?_
    rw [rd_drop l p (by omega)] at H
    unfold mnG at H
    simp only [if_pos (show (p : Int) < (l.length : Int) by omega), if_pos (show 0 ≤ (p : Int) by omega)]
    rw [show wrap64 ((p : Int) + 1) = ((p + 1 : Nat) : Int) by rw [w64 (by omega) (by omega)]; rfl]
    by_cases c1 : rd l p ≥ n
    · simp only [if_pos c1] at H ⊢
      by_cases c2 : rd l p < m
      · simp only [if_pos c2] at H ⊢
        exact rE_l2 l hl b n delta bias h out v q (p + 1) _ (by omega) H
      · simp only [if_neg c2] at H ⊢
        exact rE_l2 l hl b n delta bias h out v q (p + 1) _ (by omega) H
    · simp only [if_neg c1] at H ⊢
      exact rE_l2 l hl b n delta bias h out v q (p + 1) _ (by omega) H

theorem rE_l1 (l : List Int) (hl : l.length ≤ 63) (hv : valid l = true) (b : Int) : ∀ (ms : List Int) (n : Int) (st : St), Ahead l n ms st →
    Ev (fun k => portcullisref05_Encode.l1 k l st.1 b n st.2.1 st.2.2.1 st.2.2.2) (fin (encOut l b ms n st))
  | [], n, (out, delta, bias, h), A => by
    refine Ev.of_eq1 (fun k => by rw [portcullisref05_Encode.l1]) ?_
    have hh := A.h
    simp only at hh
    have hc : cntLt n l = l.length := List.countP_eq_length.2 fun r hr => by
      rw [decide_eq_true_eq]
      rcases Int.lt_or_le r n with h1 | h1
      · exact h1
      · exact absurd ((A.mem r).2 ⟨hr, h1⟩) (by simp)
    simp only [if_neg (show ¬ h < (l.length : Int) by omega)]
    show Ev _ (fin out)
    unfold fin
    by_cases h63 : 63 < out.length
    · simp only [if_pos (show (out.length : Int) > 63 by omega)]
      rw [if_pos h63]
      exact Ev.const _
    · simp only [if_neg (show ¬ (out.length : Int) > 63 by omega)]
      rw [if_neg h63]
      exact Ev.const _
  | m :: ms, n, (out, delta, bias, h), A => by
    refine Ev.of_eq1 (fun k => by rw [portcullisref05_Encode.l1]) ?_
    have hh := A.h
    simp only at hh
    obtain ⟨a0, a1, a2, a3, a4, a5, a6, a7, a8, a9⟩ := A.step hl hv b
    have hlt : h < (l.length : Int) := by
      have h1 := cnt_succ m l
      have h2 := cnt_le (m + 1) l
      have h3 := cnt_mem ((A.mem m).1 (by simp)).1
      have h4 : cntLt n l ≤ cntLt m l := List.countP_mono_left fun r _ hr => by rw [decide_eq_true_eq] at hr ⊢; omega
      omega
    simp only [if_pos hlt]
    refine rE_l2 l hl b n delta bias h out _ l.length 0 1114112 (by omega) ?_
    rw [List.drop_zero]
    have hm : mnG n l 1114112 = m := by
      obtain ⟨x, y, z⟩ := mnG_spec n l 1114112
      have hml := (A.mem m).1 (by simp)
      have h1 := z m hml.1 hml.2
      rcases x with x | x
      · omega
      · have : mnG n l 1114112 ∈ m :: ms := (A.mem _).2 x
        rcases List.mem_cons.1 this with h2 | h2
        · exact h2
        · have := (List.pairwise_cons.1 A.pair).1 _ h2
          omega
    rw [hm]
    have k0 : 0 ≤ delta ∧ delta ≤ (cntLt n l + 1) * 80000000 := ⟨A.ok.1, A.ok.2.1⟩
    have hn0 := A.n0
    have hn1 := A.n1
    have hh0 : 0 ≤ h := A.ok.2.2.2.2.1
    have hcl := cnt_le n l
    rw [w32 (n := m - n) (by omega) (by omega), w64 (n := m - n) (by omega) (by omega), w64 (n := h + 1) (by omega) (by omega), w64 (n := (m - n) * (h + 1)) (by omega) (by omega), w64 (n := delta + (m - n) * (h + 1)) (by omega) (by omega)]
    refine rE_l3 l hl hv b m _ l.length 0 (out, delta + (m - n) * (h + 1), bias, h) ((cntLt n l + 1) * 80000000 + 71400000) (by omega) a3 (by omega) (by rw [List.drop_zero]; exact a4) ?_
    rw [List.drop_zero]
    have q0 := a8.ok.1
    simp only at q0 a9
    rw [w32 (n := m + 1) (by omega) (by omega), w64 (n := (encIn m b l (out, delta + (m - n) * (h + 1), bias, h)).2.1 + 1) (by omega) (by omega)]
    exact rE_l1 l hl hv b ms (m + 1) _ a8

theorem rE_l0 (l : List Int) (hl : l.length ≤ 63) : ∀ (q p : Nat) (acc : List Int), p + q = l.length → acc ++ basics (l.drop p) = basics l → valid (l.take p) = true →
    Ev (fun k => portcullisref05_Encode.l0 k l acc p) (if valid (l.drop p) then fin (encO l) else ((⟨#[]⟩ : ByteArray), 2))
  | 0, p, acc, hp, ha, hv => by
    refine Ev.of_eq1 (fun k => by rw [portcullisref05_Encode.l0]) ?_
    rw [List.drop_of_length_le (by omega)] at ha ⊢
    rw [List.take_of_length_le (by omega)] at hv
    simp only [basics, List.filter_nil, List.append_nil] at ha
    have ha : acc = basics l := ha
    subst ha
    simp only [if_neg (show ¬ (p : Int) < (l.length : Int) by omega), valid, List.all_nil, if_true]
    have hb := basics_len l
    have hc := cnt_le 128 l
    have hE := rE_l1 l hl hv (basics l).length (kinds l) 128 _ (ahead_start l hl)
    have hE : Ev (fun k => portcullisref05_Encode.j1 k l (start l) ((basics l).length : Int)) (fin (encO l)) := Ev.of_eq1 (fun k => by rw [portcullisref05_Encode.j1]) hE
    unfold start at hE
    by_cases c : 0 < (basics l).length
    · rw [if_pos c] at hE
      simp only [if_pos (show ((basics l).length : Int) > 0 by omega), if_pos (show (basics l).length < 140737488355328 by omega)]
      exact hE
    · rw [if_neg c] at hE
      simp only [if_neg (show ¬ ((basics l).length : Int) > 0 by omega)]
      exact hE
  | q + 1, p, acc, hp, ha, hv => by
    refine Ev.of_eq1 (fun k => by rw [portcullisref05_Encode.l0]) ?_
    have hb := basics_len l
    have hc := cnt_le 128 l
    have hal : acc.length ≤ (basics l).length := by rw [← ha, List.length_append]; omega
    have hd := rd_drop l p (by omega)
    rw [hd] at ha ⊢
    simp only [if_pos (show (p : Int) < (l.length : Int) by omega), if_pos (show 0 ≤ (p : Int) by omega)]
    rw [w64 (n := (p : Int) + 1) (by omega) (by omega), rScal]
    simp only [Option.bind_some, valid, List.all_cons]
    by_cases hr : Go.Lib.validRune (rd l p) = true
    · simp only [if_pos hr, hr, Bool.true_and]
      have hbd := valid_bd (l := [rd l p]) (by simp [valid, hr]) (rd l p) (by simp)
      have hv2 : valid (l.take (p + 1)) = true := by
        rw [List.take_add_one, valid, List.all_append]
        have : l[p]? = some (rd l p) := by rw [← List.head?_drop, hd]; rfl
        rw [this]
        simp only [valid] at hv
        simp [hv, hr]
      unfold basics at ha
      rw [List.filter_cons] at ha
      by_cases c : rd l p < 128
      · rw [if_pos (decide_eq_true c)] at ha
        simp only [if_pos c, if_pos (show acc.length < 140737488355328 by omega)]
        rw [show rd l p % 256 = rd l p by omega]
        exact rE_l0 l hl q (p + 1) (acc ++ [rd l p]) (by omega) (by rw [List.append_assoc]; exact ha) hv2
      · rw [if_neg (by rw [decide_eq_true_eq]; exact c)] at ha
        simp only [if_neg c]
        exact rE_l0 l hl q (p + 1) acc (by omega) ha hv2
    · simp only [if_neg hr, show Go.Lib.validRune (rd l p) = false by simpa using hr, Bool.false_and, Bool.false_eq_true, if_false]
      exact Ev.const _

theorem rE (l : List Int) : Ev (fun k => portcullisref05_Encode.f k l) (encS l) := by
  unfold portcullisref05_Encode.f encS
  by_cases h63 : 63 < l.length
  · simp only [if_pos h63, if_pos (show (l.length : Int) > 63 by omega)]
    exact Ev.const _
  · simp only [if_neg h63, if_neg (show ¬ (l.length : Int) > 63 by omega)]
    exact rE_l0 l (by omega) l.length 0 [] (by omega) (by simp) (by simp [valid])
end Go.Proofs.Ytmhlagakimckjaa.Pure

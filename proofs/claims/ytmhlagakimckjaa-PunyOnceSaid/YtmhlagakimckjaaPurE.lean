import Derived.Test.YtmhlagakimckjaaPurD
import Derived.Test.YtmhlagakimckjaaQ2
import Derived.Test.YtmhlagakimckjaaQ7
import Derived.Test.YtmhlagakimckjaaQ10
/- What is proved: what the program's Encode comes to, as a plain function. -/
namespace Go.Proofs.Ytmhlagakimckjaa.Pure
open Go.RowKit Go.Proofs.Ytmhlagakimckjaa.Q Go.Proofs.YtmhlagakimckjaaW.PrintWords Go.Proofs.YtmhlagakimckjaaW.PrintLast Go.Proofs.YtmhlagakimckjaaW.PrintMore
set_option linter.unusedVariables false
set_option linter.unusedSimpArgs false

abbrev St := List Int × Int × Int × Int
/-- One pass over the list, for n. -/
def encIn (n b : Int) : List Int → St → St
  | [], st => st
  | r :: l, (out, delta, bias, h) =>
    if r < n then encIn n b l (out, delta + 1, bias, h)
    else if r = n then encIn n b l (out ++ digs (delta.toNat + 1) delta 36 bias, 0, adp delta (h + 1) (h == b), h + 1)
    else encIn n b l (out, delta, bias, h)
/-- A pass for each of ms. -/
def encOut (l : List Int) (b : Int) : List Int → Int → St → List Int
  | [], _, (out, _, _, _) => out
  | m :: ms, n, (out, delta, bias, h) =>
    encOut l b ms (m + 1) ((encIn m b l (out, delta + (m - n) * (h + 1), bias, h)).1, (encIn m b l (out, delta + (m - n) * (h + 1), bias, h)).2.1 + 1, (encIn m b l (out, delta + (m - n) * (h + 1), bias, h)).2.2)

def basics (l : List Int) : List Int := l.filter fun r => decide (r < 128)
def kinds (l : List Int) : List Int := (Lib.compact (l.mergeSort fun x y => decide (x ≤ y))).filter fun r => decide (128 ≤ r)
def start (l : List Int) : List Int := if 0 < (basics l).length then basics l ++ [45] else basics l
def encO (l : List Int) : List Int := encOut l (basics l).length (kinds l) 128 (start l, 0, 72, (basics l).length)
def valid (l : List Int) : Bool := l.all Go.Lib.validRune
def encS (l : List Int) : ByteArray × Int :=
  if 63 < l.length then ((⟨#[]⟩ : ByteArray), 4) else
  if valid l then (if 63 < (encO l).length then ((⟨#[]⟩ : ByteArray), 4) else (strOfNums (encO l), 0)) else ((⟨#[]⟩ : ByteArray), 2)

/-! ### the bounds -/
def cntEq (n : Int) (l : List Int) : Nat := l.countP fun r => decide (r = n)
def cntLt (n : Int) (l : List Int) : Nat := l.countP fun r => decide (r < n)
theorem cnt_succ (n : Int) (l : List Int) : cntLt (n + 1) l = cntLt n l + cntEq n l := by
  induction l with
  | nil => rfl
  | cons r l ih =>
    simp only [cntLt, cntEq, List.countP_cons] at ih ⊢
    rw [ih]
    by_cases h1 : r < n
    · simp [h1, show r < n + 1 by omega, show ¬ r = n by omega]; omega
    · by_cases h2 : r = n
      · rw [decide_eq_true (show r < n + 1 by omega), decide_eq_false h1, decide_eq_true h2]
        simp only [if_true, Bool.false_eq_true, if_false]
        omega
      · simp [h1, h2, show ¬ r < n + 1 by omega]
theorem cnt_le (n : Int) (l : List Int) : cntLt n l ≤ l.length := List.countP_le_length
theorem cnt_eq_le (n : Int) (l : List Int) : cntEq n l ≤ l.length := List.countP_le_length

theorem digs_len (f : Nat) : ∀ (q k bias : Int), (digs f q k bias).length ≤ f := by
  induction f with
  | zero => intro q k bias; simp [digs]
  | succ f ih =>
    intro q k bias
    unfold digs
    split
    · simp
    · have := ih ((q - thr k bias) / (36 - thr k bias)) (k + 36) bias
      simp only [List.length_cons]; omega

/-- What holds of a state with so many of the list to come. -/
def Ok (D : Int) (st : St) : Prop := 0 ≤ st.2.1 ∧ st.2.1 ≤ D ∧ 0 ≤ st.2.2.1 ∧ st.2.2.1 ≤ 1000 ∧ 0 ≤ st.2.2.2 ∧ (st.1.length : Int) ≤ 200 + st.2.2.2 * 10000000000

theorem encIn_ok (n b : Int) : ∀ (l : List Int) (st : St) (D : Int), Ok D st → D + l.length ≤ 9999999999 →
    Ok (D + l.length) (encIn n b l st) ∧ (encIn n b l st).2.2.2 = st.2.2.2 + cntEq n l
  | [], st, D, h, hD => by
    refine ⟨?_, by simp [encIn, cntEq]⟩
    simpa [encIn] using h
  | r :: l, (out, delta, bias, h), D, hk, hD => by
    obtain ⟨h0, h1, h2, h3, h4, h5⟩ := hk
    simp only at h0 h1 h2 h3 h4 h5
    have hc0 : (r :: l).length = l.length + 1 := rfl
    rw [hc0] at hD ⊢
    unfold encIn
    by_cases c1 : r < n
    · rw [if_pos c1]
      have ih := encIn_ok n b l (out, delta + 1, bias, h) (D + 1) ⟨by simp only; omega, by simp only; omega, h2, h3, h4, h5⟩ (by omega)
      refine ⟨?_, ?_⟩
      · have := ih.1
        rw [show D + 1 + (l.length : Int) = D + ((l.length + 1 : Nat) : Int) by omega] at this
        exact this
      · rw [ih.2]
        simp [cntEq, show ¬ r = n by omega]
    · rw [if_neg c1]
      by_cases c2 : r = n
      · rw [if_pos c2]
        have ha := adp_bd delta (h + 1) (h == b)
        have hd := digs_len (delta.toNat + 1) delta 36 bias
        have hle : delta ≤ 9999999999 := by omega
        have ih := encIn_ok n b l (out ++ digs (delta.toNat + 1) delta 36 bias, 0, adp delta (h + 1) (h == b), h + 1) D ⟨by simp only; omega, by simp only; omega, by simp only; omega, by simp only; omega, by simp only; omega, by simp only [List.length_append]; omega⟩ (by omega)
        refine ⟨?_, ?_⟩
        · obtain ⟨i0, i1, i2⟩ := ih.1
          exact ⟨i0, by omega, i2⟩
        · rw [ih.2]
          simp [cntEq, c2]
          omega
      · rw [if_neg c2]
        have ih := encIn_ok n b l (out, delta, bias, h) D ⟨h0, h1, h2, h3, h4, h5⟩ (by omega)
        refine ⟨?_, ?_⟩
        · obtain ⟨i0, i1, i2⟩ := ih.1
          exact ⟨i0, by omega, i2⟩
        · rw [ih.2]
          simp [cntEq, c2]

/-! ### the sorted list of what there is -/
theorem compact_mem {zs : List Int} {x : Int} (h : x ∈ Lib.compact zs) : x ∈ zs := by
  unfold Lib.compact Lib.compactUpTo at h
  rw [List.mem_map] at h
  obtain ⟨i, hi, rfl⟩ := h
  rw [List.mem_filter, List.mem_range] at hi
  rw [getElem!_pos zs.toArray i (by simpa using hi.1)]
  simp
theorem mem_compact {zs : List Int} : ∀ (i : Nat) (h : i < zs.length), zs[i] ∈ Lib.compact zs := by
  intro i
  induction i with
  | zero =>
    intro h
    unfold Lib.compact Lib.compactUpTo
    rw [List.mem_map]
    refine ⟨0, ?_, ?_⟩
    · rw [List.mem_filter, List.mem_range]
      exact ⟨h, by simp [Lib.keeps]⟩
    · rw [getElem!_pos zs.toArray 0 (by simpa using h)]
      simp
  | succ i ih =>
    intro h
    by_cases he : zs[i + 1] = zs[i]'(by omega)
    · rw [he]; exact ih (by omega)
    · unfold Lib.compact Lib.compactUpTo
      rw [List.mem_map]
      refine ⟨i + 1, ?_, ?_⟩
      · rw [List.mem_filter, List.mem_range]
        refine ⟨h, ?_⟩
        simp [Lib.keeps, getElem!_pos zs.toArray (i + 1) (by simpa using h), getElem!_pos zs.toArray i (by simp; omega)]
        exact he
      · rw [getElem!_pos zs.toArray (i + 1) (by simpa using h)]
        simp
theorem compact_pair {zs : List Int} (hs : zs.Pairwise (· ≤ ·)) : (Lib.compact zs).Pairwise (· < ·) := by
  unfold Lib.compact Lib.compactUpTo
  rw [List.pairwise_map]
  refine List.Pairwise.imp_of_mem ?_ (List.Pairwise.filter _ List.pairwise_lt_range)
  intro i j hi hj hij
  rw [List.mem_filter, List.mem_range] at hi hj
  rw [getElem!_pos zs.toArray i (by simpa using hi.1), getElem!_pos zs.toArray j (by simpa using hj.1)]
  simp only [List.getElem_toArray]
  have hk := hj.2
  obtain ⟨j, rfl⟩ : ∃ j', j = j' + 1 := ⟨j - 1, by omega⟩
  simp [Lib.keeps, getElem!_pos zs.toArray (j + 1) (by simpa using hj.1), getElem!_pos zs.toArray j (by simp; omega)] at hk
  have h1 : zs[j]'(by omega) ≤ zs[j + 1]'hj.1 := List.pairwise_iff_getElem.1 hs j (j + 1) _ _ (by omega)
  have h2 : zs[i]'hi.1 ≤ zs[j]'(by omega) := by
    rcases Nat.lt_or_ge i j with h | h
    · exact List.pairwise_iff_getElem.1 hs i j _ _ h
    · have : i = j := by omega
      subst this
      exact Int.le_refl _
  omega

theorem sorted_ms (l : List Int) : (l.mergeSort fun x y => decide (x ≤ y)).Pairwise (· ≤ ·) := by
  have := List.pairwise_mergeSort (le := fun x y : Int => decide (x ≤ y)) (fun a b c h1 h2 => by simp only [decide_eq_true_eq] at *; omega) (fun a b => by simp only [Bool.or_eq_true, decide_eq_true_eq]; omega) l
  exact this.imp (fun h => of_decide_eq_true h)
theorem kinds_pair (l : List Int) : (kinds l).Pairwise (· < ·) := List.Pairwise.filter _ (compact_pair (sorted_ms l))
theorem mem_kinds (l : List Int) (x : Int) : x ∈ kinds l ↔ x ∈ l ∧ 128 ≤ x := by
  unfold kinds
  rw [List.mem_filter, decide_eq_true_eq]
  refine and_congr_left fun _ => ⟨fun h => ?_, fun h => ?_⟩
  · exact List.mem_mergeSort.1 (compact_mem h)
  · obtain ⟨i, hi, rfl⟩ := List.mem_iff_getElem.1 (List.mem_mergeSort (le := fun x y : Int => decide (x ≤ y)).2 h)
    exact mem_compact i hi
end Go.Proofs.Ytmhlagakimckjaa.Pure

/- What is proved: the program's Encode is the plain function. -/
namespace Go.Proofs.Ytmhlagakimckjaa.Pure
open Go.RowKit Go.Proofs.Ytmhlagakimckjaa.Q Go.Proofs.YtmhlagakimckjaaW.PrintWords Go.Proofs.YtmhlagakimckjaaW.PrintLast Go.Proofs.YtmhlagakimckjaaW.PrintMore
set_option linter.unusedVariables false
set_option linter.unusedSimpArgs false

theorem rd_drop (l : List Int) (p : Nat) (h : p < l.length) : l.drop p = rd l p :: l.drop (p + 1) := by
  rw [List.drop_eq_getElem_cons h]
  congr 1
  simp [rd, List.getD_eq_getElem?_getD, h]
theorem rd_mem (l : List Int) (p : Nat) (h : p < l.length) : rd l p ∈ l := by
  have : l.drop p = rd l p :: l.drop (p + 1) := rd_drop l p h
  exact List.mem_of_mem_drop (i := p) (by rw [this]; simp)

theorem encR_len (r : Int) : (Go.Lib.encodeRuneZ r).length ≤ 4 := by
  unfold Go.Lib.encodeRuneZ
  repeat' split
  all_goals simp

theorem uE_l0 (l : List Int) (hl : l.length ≤ 1000000) (hw : ∀ r ∈ l, -2147483648 ≤ r ∧ r ≤ 2147483647) : ∀ (m p : Nat) (acc : List Int), p + m = l.length → acc.length ≤ 4 * p →
    Ev (fun k => utf_Encode.l0 k acc l (l.length : Int) p) (if valid (l.drop p) then (strOfNums (acc ++ (l.drop p).flatMap Go.Lib.encodeRuneZ), 0) else ((⟨#[]⟩ : ByteArray), 2))
  | 0, p, acc, hp, ha => by
    refine Ev.of_eq1 (fun k => by rw [utf_Encode.l0]) ?_
    rw [List.drop_of_length_le (by omega)]
    simp only [if_neg (show ¬ (p : Int) < (l.length : Int) by omega), valid, List.all_nil, if_true, List.flatMap_nil, List.append_nil]
    exact Ev.const _
  | m + 1, p, acc, hp, ha => by
    refine Ev.of_eq1 (fun k => by rw [utf_Encode.l0]) ?_
    rw [rd_drop l p (by omega)]
    simp only [if_pos (show (p : Int) < (l.length : Int) by omega), if_pos (show 0 ≤ (p : Int) by omega), utf8_ValidRune.f, Option.bind_some, utf8_AppendRune.f]
    have hr := hw _ (rd_mem l p (by omega))
    simp only [valid, List.all_cons]
    by_cases hv : Go.Lib.validRune (rd l p) = true
    · simp only [if_pos hv, hv, Bool.true_and]
      simp only [if_pos (show -2147483648 ≤ rd l p ∧ rd l p ≤ 2147483647 ∧ acc.length ≤ 70368744177664 from ⟨hr.1, hr.2, by omega⟩), Option.bind_some]
      rw [w64 (n := (p : Int) + 1) (by omega) (by omega)]
      have hE := encR_len (rd l p)
      have ih := uE_l0 l hl hw m (p + 1) (acc ++ Go.Lib.encodeRuneZ (rd l p)) (by omega) (by simp only [List.length_append]; omega)
      rw [List.append_assoc] at ih
      rw [List.flatMap_cons]
      exact ih
    · simp only [if_neg hv, show Go.Lib.validRune (rd l p) = false by simpa using hv, Bool.false_and, Bool.false_eq_true, if_false]
      exact Ev.const _
theorem uE (l : List Int) (hl : l.length ≤ 1000000) (hw : ∀ r ∈ l, -2147483648 ≤ r ∧ r ≤ 2147483647) : Ev (fun k => utf_Encode.f k l) (if valid l then (strOfNums (l.flatMap Go.Lib.encodeRuneZ), 0) else ((⟨#[]⟩ : ByteArray), 2)) := by
  have h := uE_l0 l hl hw l.length 0 [] (by omega) (by simp)
  rw [List.drop_zero, List.nil_append] at h
  exact h

theorem valid_bd {l : List Int} (hv : valid l = true) : ∀ r ∈ l, 0 ≤ r ∧ r ≤ 1114111 := by
  intro r hr
  have h := List.all_eq_true.1 hv r hr
  unfold Go.Lib.validRune at h
  have := of_decide_eq_true h
  omega

def fin (o : List Int) : ByteArray × Int := if 63 < o.length then ((⟨#[]⟩ : ByteArray), 4) else (strOfNums o, 0)

theorem pE_l2 (l : List Int) (hl : l.length ≤ 63) (hv : valid l = true) (b n : Int) (ms : List Int) (idx : Nat) (v : ByteArray × Int) : ∀ (q p : Nat) (st : St) (D : Int), p + q = l.length → Ok D st → D + q ≤ 9999999999 → st.2.2.2 + cntEq n (l.drop p) ≤ 63 →
    Ev (fun k => puny_Encode.l1 k l (encIn n b (l.drop p) st).1 b (wrap32 (n + 1)) (wrap64 ((encIn n b (l.drop p) st).2.1 + 1)) (encIn n b (l.drop p) st).2.2.1 (encIn n b (l.drop p) st).2.2.2 ms ms.length (wrap64 ((idx : Int) + 1))) v →
    Ev (fun k => puny_Encode.l2 k l st.1 b n st.2.1 st.2.2.1 st.2.2.2 ms ms.length idx l l.length p) v
  | 0, p, st, D, hp, hk, hD, hc, H => by
    refine Ev.of_eq1 (fun k => by rw [puny_Encode.l2]) ?_
    rw [List.drop_of_length_le (by omega)] at H
    simp only [if_neg (show ¬ (p : Int) < (l.length : Int) by omega)]
    exact H
  | q + 1, p, (out, delta, bias, h), D, hp, hk, hD, hc, H => by
    refine Ev.of_eq1 (fun k => by rw [puny_Encode.l2]) ?_
    obtain ⟨h0, h1, h2, h3, h4, h5⟩ := hk
    simp only at h0 h1 h2 h3 h4 h5 hc
    rw [rd_drop l p (by omega)] at H hc
    simp only [cntEq, List.countP_cons] at hc
    have hr := valid_bd hv _ (rd_mem l p (by omega))
    simp only [if_pos (show (p : Int) < (l.length : Int) by omega), if_pos (show 0 ≤ (p : Int) by omega)]
    rw [w64 (n := (p : Int) + 1) (by omega) (by omega)]
    unfold encIn at H
    by_cases c1 : rd l p < n
    · simp only [if_pos c1] at H ⊢
      rw [w64 (n := delta + 1) (by omega) (by omega)]
      rw [decide_eq_false (show ¬ rd l p = n by omega)] at hc
      exact pE_l2 l hl hv b n ms idx v q (p + 1) (out, delta + 1, bias, h) (D + 1) (by omega) ⟨by simp only; omega, by simp only; omega, h2, h3, h4, h5⟩ (by omega) (by simpa [cntEq] using hc) H
    · simp only [if_neg c1] at H ⊢
      by_cases c2 : rd l p = n
      · simp only [if_pos c2] at H ⊢
        rw [decide_eq_true c2] at hc
        simp only [if_true] at hc
        have hdg : puny_digits.f out delta bias = some (out ++ digs (delta.toNat + 1) delta 36 bias) := by
          unfold puny_digits.f
          rw [if_pos ⟨by omega, by omega, by omega, by omega, by omega⟩]
        simp only [hdg, Option.bind_some]
        rw [w64 (n := h + 1) (by omega) (by omega)]
        refine Ev.bind (pA _ _ _ (by omega)) ?_
        have ha := adp_bd delta (h + 1) (h == b)
        have hd := digs_len (delta.toNat + 1) delta 36 bias
        exact pE_l2 l hl hv b n ms idx v q (p + 1) (out ++ digs (delta.toNat + 1) delta 36 bias, 0, adp delta (h + 1) (h == b), h + 1) D (by omega)
          ⟨by simp only; omega, by simp only; omega, by simp only; omega, by simp only; omega, by simp only; omega, by simp only [List.length_append]; omega⟩ (by omega) (by simp only [cntEq]; omega) H
      · simp only [if_neg c2] at H ⊢
        rw [decide_eq_false c2] at hc
        exact pE_l2 l hl hv b n ms idx v q (p + 1) (out, delta, bias, h) D (by omega) ⟨h0, h1, h2, h3, h4, h5⟩ (by omega) (by simpa [cntEq] using hc) H

theorem cnt_gap {l : List Int} {n m : Int} (h : n ≤ m) (hn : ∀ r ∈ l, n ≤ r → m ≤ r) : cntLt m l = cntLt n l := by
  unfold cntLt
  refine List.countP_congr fun r hr => ?_
  have := hn r hr
  simp only [decide_eq_true_eq]
  omega
theorem cnt_mem {l : List Int} {m : Int} (h : m ∈ l) : 1 ≤ cntEq m l := by
  unfold cntEq
  exact List.countP_pos_iff.2 ⟨m, h, by simp⟩

/-- What holds ahead of the pass for the first of ms. -/
structure Ahead (l : List Int) (n : Int) (ms : List Int) (st : St) : Prop where
  pair : ms.Pairwise (· < ·)
  mem : ∀ r, r ∈ ms ↔ r ∈ l ∧ n ≤ r
  n0 : 128 ≤ n
  n1 : n ≤ 1114112
  ok : Ok ((cntLt n l + 1) * 80000000) st
  h : st.2.2.2 = cntLt n l

theorem Ahead.step {l : List Int} (hl : l.length ≤ 63) (hv : valid l = true) {n m : Int} {ms : List Int} {out : List Int} {delta bias h : Int} (b : Int) (A : Ahead l n (m :: ms) (out, delta, bias, h)) :
    128 ≤ m ∧ m ≤ 1114111 ∧ n ≤ m ∧ Ok ((cntLt n l + 1) * 80000000 + 71400000) (out, delta + (m - n) * (h + 1), bias, h) ∧ (h + cntEq m l ≤ 63) ∧ 0 ≤ (m - n) * (h + 1) ∧ (m - n) * (h + 1) ≤ 71400000 ∧ h ≤ 63 ∧
    (let st' := encIn m b l (out, delta + (m - n) * (h + 1), bias, h); Ahead l (m + 1) ms (st'.1, st'.2.1 + 1, st'.2.2) ∧ st'.2.1 + 1 ≤ 9999999999) := by
  have hml := (A.mem m).1 (by simp)
  have hm := valid_bd hv m hml.1
  have hh := A.h
  simp only at hh
  have hgap : cntLt m l = cntLt n l := cnt_gap hml.2 fun r hr hn => by
    have : r ∈ m :: ms := (A.mem r).2 ⟨hr, hn⟩
    rcases List.mem_cons.1 this with rfl | h2
    · exact Int.le_refl _
    · exact Int.le_of_lt ((List.pairwise_cons.1 A.pair).1 r h2)
  have hsucc := cnt_succ m l
  have hle := cnt_le (m + 1) l
  have hpos := cnt_mem hml.1
  have h63 : h ≤ 62 := by omega
  have hn0 := A.n0
  have p0 : 0 ≤ (m - n) * (h + 1) := Int.mul_nonneg (by omega) (by omega)
  have p1 : (m - n) * (h + 1) ≤ 1114111 * 63 := Int.mul_le_mul (by omega) (by omega) (by omega) (by omega)
  obtain ⟨k0, k1, k2, k3, k4, k5⟩ := A.ok
  simp only at k0 k1 k2 k3 k4 k5
  have hok2 : Ok ((cntLt n l + 1) * 80000000 + 71400000) (out, delta + (m - n) * (h + 1), bias, h) := ⟨by simp only; omega, by simp only; omega, k2, k3, k4, k5⟩
  have hin := encIn_ok m b l (out, delta + (m - n) * (h + 1), bias, h) _ hok2 (by omega)
  have hq : Ok ((cntLt (m + 1) l + 1) * 80000000) ((encIn m b l (out, delta + (m - n) * (h + 1), bias, h)).1, (encIn m b l (out, delta + (m - n) * (h + 1), bias, h)).2.1 + 1, (encIn m b l (out, delta + (m - n) * (h + 1), bias, h)).2.2) := by
    obtain ⟨⟨q0, q1, q2, q3, q4, q5⟩, q6⟩ := hin
    exact ⟨by simp only; omega, by simp only; omega, q2, q3, q4, q5⟩
  refine ⟨by omega, by omega, hml.2, hok2, by omega, p0, by omega, by omega, ⟨(List.pairwise_cons.1 A.pair).2, fun r => ?_, by omega, by omega, hq, ?_⟩, ?_⟩
  · refine ⟨fun hr => ⟨((A.mem r).1 (List.mem_cons_of_mem _ hr)).1, (List.pairwise_cons.1 A.pair).1 r hr⟩, fun ⟨h1, h2⟩ => ?_⟩
    rcases List.mem_cons.1 ((A.mem r).2 ⟨h1, by omega⟩) with rfl | h3
    · omega
    · exact h3
  · show (encIn m b l (out, delta + (m - n) * (h + 1), bias, h)).2.2.2 = _
    rw [hin.2]
    simp only
    omega
  · obtain ⟨q0, q1, _⟩ := hq
    simp only at q1
    omega

theorem pE_l1 (l : List Int) (hl : l.length ≤ 63) (hv : valid l = true) (b : Int) (ks : List Int) (hks : ks.length ≤ 1000) (hkv : ∀ r ∈ ks, 0 ≤ r ∧ r ≤ 1114111) : ∀ (j idx : Nat) (n : Int) (st : St), idx + j = ks.length → Ahead l n ((ks.drop idx).filter fun r => decide (128 ≤ r)) st →
    Ev (fun k => puny_Encode.l1 k l st.1 b n st.2.1 st.2.2.1 st.2.2.2 ks ks.length idx) (fin (encOut l b ((ks.drop idx).filter fun r => decide (128 ≤ r)) n st))
  | 0, idx, n, (out, delta, bias, h), hp, A => by
    refine Ev.of_eq1 (fun k => by rw [puny_Encode.l1]) ?_
    rw [List.drop_of_length_le (by omega)]
    simp only [if_neg (show ¬ (idx : Int) < (ks.length : Int) by omega), List.filter_nil, encOut, fin]
    by_cases h63 : 63 < out.length
    · simp only [if_pos h63, if_pos (show (out.length : Int) > 63 by omega)]
      exact Ev.const _
    · simp only [if_neg h63, if_neg (show ¬ (out.length : Int) > 63 by omega)]
      exact Ev.const _
  | j + 1, idx, n, (out, delta, bias, h), hp, A => by
    refine Ev.of_eq1 (fun k => by rw [puny_Encode.l1]) ?_
    have hd := rd_drop ks idx (by omega)
    have hkr := hkv _ (rd_mem ks idx (by omega))
    simp only [if_pos (show (idx : Int) < (ks.length : Int) by omega), if_pos (show 0 ≤ (idx : Int) by omega)]
    by_cases c : rd ks idx < 128
    · simp only [if_pos c]
      rw [hd, List.filter_cons, if_neg (by rw [decide_eq_true_eq]; omega)] at A ⊢
      rw [w64 (n := (idx : Int) + 1) (by omega) (by omega)]
      exact pE_l1 l hl hv b ks hks hkv j (idx + 1) n (out, delta, bias, h) (by omega) A
    · simp only [if_neg c]
      rw [hd, List.filter_cons, if_pos (by rw [decide_eq_true_eq]; omega)] at A ⊢
      obtain ⟨m, hm⟩ : ∃ m, rd ks idx = m := ⟨_, rfl⟩
      rw [hm] at A ⊢
      obtain ⟨a0, a1, a2, a3, a4, a5, a6, a7, a8, a9⟩ := A.step hl hv b
      have k0 : 0 ≤ delta ∧ delta ≤ (cntLt n l + 1) * 80000000 := ⟨A.ok.1, A.ok.2.1⟩
      have hn0 := A.n0
      have hn1 := A.n1
      have hh0 : 0 ≤ h := A.ok.2.2.2.2.1
      have hcl := cnt_le n l
      rw [w32 (n := m - n) (by omega) (by omega), w64 (n := m - n) (by omega) (by omega), w64 (n := h + 1) (by omega) (by omega), w64 (n := (m - n) * (h + 1)) (by omega) (by omega), w64 (n := delta + (m - n) * (h + 1)) (by omega) (by omega)]
      refine pE_l2 l hl hv b m ks idx _ l.length 0 (out, delta + (m - n) * (h + 1), bias, h) ((cntLt n l + 1) * 80000000 + 71400000) (by omega) a3 (by omega) (by rw [List.drop_zero]; exact a4) ?_
      rw [List.drop_zero]
      have q0 := a8.ok.1
      simp only at q0 a9
      rw [w32 (n := m + 1) (by omega) (by omega), w64 (n := (idx : Int) + 1) (by omega) (by omega), w64 (n := (encIn m b l (out, delta + (m - n) * (h + 1), bias, h)).2.1 + 1) (by omega) (by omega)]
      exact pE_l1 l hl hv b ks hks hkv j (idx + 1) (m + 1) _ (by omega) a8

theorem compact_len (zs : List Int) : (Lib.compact zs).length ≤ zs.length := by
  unfold Lib.compact Lib.compactUpTo
  rw [List.length_map]
  refine Nat.le_trans (List.length_filter_le _ _) ?_
  rw [List.length_range]
  exact Nat.le_refl _

theorem basics_len (l : List Int) : (basics l).length = cntLt 128 l := by
  unfold basics cntLt
  rw [List.countP_eq_length_filter]

theorem ahead_start (l : List Int) (hl : l.length ≤ 63) : Ahead l 128 (kinds l) (start l, 0, 72, (basics l).length) := by
  have hb := basics_len l
  have hc := cnt_le 128 l
  refine ⟨kinds_pair l, mem_kinds l, by omega, by omega, ⟨by simp only; omega, by simp only; omega, by simp only; omega, by simp only; omega, by simp only; omega, ?_⟩, by simp only; omega⟩
  have : (start l).length ≤ (basics l).length + 1 := by unfold start; split <;> simp
  simp only
  omega

theorem pE_j1 (l : List Int) (hl : l.length ≤ 63) (hv : valid l = true) : Ev (fun k => puny_Encode.j1 k l (start l) ((basics l).length : Int)) (fin (encO l)) := by
  refine Ev.of_eq1 (fun k => by rw [puny_Encode.j1]) ?_
  have h1 : slices_Clone_rune_rune.f l = some l := by unfold slices_Clone_rune_rune.f; rw [if_pos (by omega)]
  have h2 : slices_Sort_rune_rune.f l = some (l.mergeSort fun x y => decide (x ≤ y)) := by unfold slices_Sort_rune_rune.f; rw [if_pos (by omega)]
  have h3 : slices_Compact_rune_rune.f (l.mergeSort fun x y => decide (x ≤ y)) = some (Lib.compact (l.mergeSort fun x y => decide (x ≤ y))) := by unfold slices_Compact_rune_rune.f; rw [if_pos (by rw [List.length_mergeSort]; omega)]
  simp only [h1, h2, h3, Option.bind_some]
  have hlen := compact_len (l.mergeSort fun x y => decide (x ≤ y))
  rw [List.length_mergeSort] at hlen
  have A := ahead_start l hl
  have hE := pE_l1 l hl hv (basics l).length (Lib.compact (l.mergeSort fun x y => decide (x ≤ y))) (by omega) (fun r hr => valid_bd hv r (List.mem_mergeSort.1 (compact_mem hr))) (Lib.compact (l.mergeSort fun x y => decide (x ≤ y))).length 0 128 (start l, 0, 72, (basics l).length) (by omega) A
  exact hE

theorem pE_l0 (l : List Int) (hl : l.length ≤ 63) (hv : valid l = true) : ∀ (q p : Nat) (acc : List Int), p + q = l.length → acc ++ basics (l.drop p) = basics l →
    Ev (fun k => puny_Encode.l0 k l acc l l.length p) (fin (encO l))
  | 0, p, acc, hp, ha => by
    refine Ev.of_eq1 (fun k => by rw [puny_Encode.l0]) ?_
    rw [List.drop_of_length_le (by omega)] at ha
    simp only [basics, List.filter_nil, List.append_nil] at ha
    have ha : acc = basics l := ha
    subst ha
    simp only [if_neg (show ¬ (p : Int) < (l.length : Int) by omega)]
    have hb := basics_len l
    have hc := cnt_le 128 l
    have hE := pE_j1 l hl hv
    unfold start at hE
    by_cases c : 0 < (basics l).length
    · rw [if_pos c] at hE
      simp only [if_pos (show ((basics l).length : Int) > 0 by omega), if_pos (show (basics l).length < 140737488355328 by omega)]
      exact hE
    · rw [if_neg c] at hE
      simp only [if_neg (show ¬ ((basics l).length : Int) > 0 by omega)]
      exact hE
  | q + 1, p, acc, hp, ha => by
    refine Ev.of_eq1 (fun k => by rw [puny_Encode.l0]) ?_
    have hr := valid_bd hv _ (rd_mem l p (by omega))
    have hb := basics_len l
    have hc := cnt_le 128 l
    have hal : acc.length ≤ (basics l).length := by rw [← ha, List.length_append]; omega
    rw [rd_drop l p (by omega)] at ha
    simp only [if_pos (show (p : Int) < (l.length : Int) by omega), if_pos (show 0 ≤ (p : Int) by omega)]
    rw [w64 (n := (p : Int) + 1) (by omega) (by omega)]
    unfold basics at ha
    rw [List.filter_cons] at ha
    by_cases c : rd l p < 128
    · rw [if_pos (decide_eq_true c)] at ha
      simp only [if_pos c, if_pos (show acc.length < 140737488355328 by omega)]
      rw [show rd l p % 256 = rd l p by omega]
      exact pE_l0 l hl hv q (p + 1) (acc ++ [rd l p]) (by omega) (by rw [List.append_assoc]; exact ha)
    · rw [if_neg (by rw [decide_eq_true_eq]; exact c)] at ha
      simp only [if_neg c]
      exact pE_l0 l hl hv q (p + 1) acc (by omega) ha

theorem pE (l : List Int) (hw : ∀ r ∈ l, -2147483648 ≤ r ∧ r ≤ 2147483647) : Ev (fun k => puny_Encode.f k l) (encS l) := by
  unfold puny_Encode.f encS
  by_cases h63 : 63 < l.length
  · simp only [if_pos h63, if_pos (show (l.length : Int) > 63 by omega)]
    exact Ev.const _
  · simp only [if_neg h63, if_neg (show ¬ (l.length : Int) > 63 by omega)]
    refine Ev.bind (uE l (by omega) hw) ?_
    by_cases hv : valid l = true
    · simp only [if_pos hv, if_true]
      exact pE_l0 l (by omega) hv l.length 0 [] (by omega) (by simp)
    · simp only [if_neg hv, if_neg (show ¬ (2 : Int) = 0 by decide)]
      exact Ev.const _
end Go.Proofs.Ytmhlagakimckjaa.Pure

/- What is proved: the known word is written and read as it should be; two lists that are the same are told so. -/
namespace Go.Proofs.Ytmhlagakimckjaa.Pure
open Go.RowKit Go.Proofs.Ytmhlagakimckjaa.Q Go.Proofs.YtmhlagakimckjaaW.PrintWords Go.Proofs.YtmhlagakimckjaaW.PrintLast Go.Proofs.YtmhlagakimckjaaW.PrintMore
set_option linter.unusedVariables false
set_option linter.unusedSimpArgs false

theorem kinds_one (l : List Int) (x : Int) (h : ∀ r, r ∈ l ∧ 128 ≤ r ↔ r = x) : kinds l = [x] := by
  have hp := kinds_pair l
  have hm : ∀ r, r ∈ kinds l ↔ r = x := fun r => (mem_kinds l r).trans (h r)
  match hk : kinds l with
  | [] => rw [hk] at hm; exact absurd ((hm x).2 rfl) (by simp)
  | [a] => rw [hk] at hm; rw [(hm a).1 (by simp)]
  | a :: b :: t =>
    rw [hk] at hm hp
    have ha := (hm a).1 (by simp)
    have hb := (hm b).1 (by simp)
    have := (List.pairwise_cons.1 hp).1 b (by simp)
    omega

theorem works_enc : encS [98, 252, 99, 104, 101, 114] = (strOfNums [98, 99, 104, 101, 114, 45, 107, 118, 97], 0) := by
  have hk : kinds [98, 252, 99, 104, 101, 114] = [252] := kinds_one _ _ (fun r => by simp only [List.mem_cons, List.not_mem_nil, or_false]; omega)
  have ho : encO [98, 252, 99, 104, 101, 114] = [98, 99, 104, 101, 114, 45, 107, 118, 97] := by
    unfold encO
    rw [hk]
    decide +kernel
  unfold encS
  rw [ho]
  rfl
theorem works_dec : decS (⟨#[98, 99, 104, 101, 114, 45, 107, 118, 97]⟩ : ByteArray) = ([98, 252, 99, 104, 101, 114], 0) := by decide +kernel
theorem works_bad : decS (⟨#[57, 57, 57, 57, 57, 57, 57, 57]⟩ : ByteArray) = ([], 8) := by decide +kernel

theorem str_toList (l : List Int) : (strOfNums l).toList = l.map fun n => UInt8.ofNat n.toNat := by
  rw [ByteArray.toList_eq]
  simp [strOfNums]

theorem works_ev : Ev (fun k => portcullislaw05_works.f k) true := by
  unfold portcullislaw05_works.f
  refine Ev.bind (pE _ (by decide)) ?_
  refine Ev.bind (pD _) ?_
  refine Ev.bind (pD _) ?_
  rw [works_enc, works_dec, works_bad]
  simp only [str_toList]
  simp only [if_true]
  refine Ev.of_eq (h := fun k => (puny_Adapt.f k 0 1 true).bind fun t161 => some (t161 == 0)) (fun k => by rw [if_pos (by decide), if_pos (by decide), if_pos (by decide), if_pos (by decide)]) ?_
  refine Ev.bind (pA 0 1 true (by decide)) ?_
  rw [show (adp 0 1 true == 0) = true by decide]
  exact Ev.const _

theorem same_l0 (l : List Int) (hl : l.length ≤ 1000000000) : ∀ (q p : Nat), p + q = l.length → Ev (fun k => portcullisref04_Same.l0 k l l p) true
  | 0, p, hp => by
    refine Ev.of_eq1 (fun k => by rw [portcullisref04_Same.l0]) ?_
    simp only [if_neg (show ¬ (p : Int) < (l.length : Int) by omega)]
    exact Ev.const _
  | q + 1, p, hp => by
    refine Ev.of_eq1 (fun k => by rw [portcullisref04_Same.l0]) ?_
    simp only [if_pos (show (p : Int) < (l.length : Int) by omega), if_pos (show 0 ≤ (p : Int) by omega), if_true]
    rw [w64 (n := (p : Int) + 1) (by omega) (by omega)]
    exact same_l0 l hl q (p + 1) (by omega)
theorem same_ev (l : List Int) (hl : l.length ≤ 1000000000) : Ev (fun k => portcullisref04_Same.f k l l) true := by
  unfold portcullisref04_Same.f
  simp only [if_true]
  exact same_l0 l hl l.length 0 (by omega)

theorem decL_len (f : Nat) : ∀ (rest out : List Int) (n i bias : Int), (decL f rest out n i bias).1.length ≤ out.length + f := by
  induction f with
  | zero => intro rest out n i bias; simp [decL]
  | succ f ih =>
    intro rest out n i bias
    unfold decL
    split
    · simp only; omega
    split
    · simp
    split
    · refine Nat.le_trans (ih _ _ _ _ _) ?_
      simp only [List.length_append, List.length_take, List.length_cons, List.length_drop]
      omega
    · simp
theorem decS_len (s : ByteArray) : (decS s).1.length ≤ 1000 := by
  unfold decS
  split
  · simp
  rename_i h
  split
  · simp
  split
  · refine Nat.le_trans (decL_len _ _ _ _ _ _) ?_
    have : ((bytesOf s).take (lastH (bytesOf s) 0 0).toNat).length ≤ 63 := by rw [List.length_take, bytesOf_length]; omega
    omega
  · refine Nat.le_trans (decL_len _ _ _ _ _ _) (by simp)
end Go.Proofs.Ytmhlagakimckjaa.Pure

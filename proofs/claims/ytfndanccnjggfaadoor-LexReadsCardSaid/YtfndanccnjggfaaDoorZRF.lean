import Derived.Test.YtfndanccnjggfaaDoorZRE
/- What is proved: the document's Lex is the program's; the small known run; LexReads' plain law. -/
namespace Go.Proofs.YtfndanccnjggfaaDoor.Pure
open Go.RowKit Go.Proofs.YtfndanccnjggfaaDoor.Q Go.Proofs.YtfndanccnjggfaaDoorW.PrintWords Go.Proofs.YtfndanccnjggfaaDoorW.PrintLast Go.Proofs.YtfndanccnjggfaaDoorW.PrintMore
set_option linter.unusedVariables false
set_option linter.unusedSimpArgs false
theorem ba_ext {a b : ByteArray} (h : a.data.toList = b.data.toList) : a = b := by
  apply ByteArray.ext
  exact Array.toList_inj.1 h
theorem extract_all (s : ByteArray) : s.extract 0 s.size = s := by
  apply ba_ext
  rw [drop_extract, List.drop_zero]
theorem extract_front (s : ByteArray) (b p : Nat) (h : b + p ≤ s.size) : (s.extract b s.size).extract 0 p = s.extract b (b + p) := by
  apply ba_ext
  rw [take_extract, drop_extract, Lib.extract_data, show b + p - b = p by omega]
theorem extract_back (s : ByteArray) (b p : Nat) : (s.extract b s.size).extract p (s.extract b s.size).size = s.extract (b + p) s.size := by
  apply ba_ext
  rw [drop_extract, drop_extract, drop_extract, List.drop_drop]
theorem trimCR_eq (t : ByteArray) : trimCR t = if t.size ≠ 0 ∧ bn t (t.size - 1) = 13 then t.extract 0 (t.size - 1) else t := by
  have hsz := Lib.size_eq t
  have h13 : (⟨#[13]⟩ : ByteArray).data.toList = [13] := rfl
  unfold trimCR Lib.trimSuffix Lib.hasSuffix
  rw [h13]
  by_cases h0 : t.size = 0
  · have hnil : t.data.toList = [] := List.eq_nil_of_length_eq_zero (by omega)
    rw [if_neg (show ¬ (t.size ≠ 0 ∧ bn t (t.size - 1) = 13) from fun h => h.1 h0), hnil]
    apply ba_ext
    rw [hnil]
    rfl
  · obtain ⟨c, he, hb⟩ := dropc t (t.size - 1) (by omega)
    have hnil : t.data.toList.drop (t.size - 1 + 1) = [] := List.eq_nil_of_length_eq_zero (by rw [len_drop]; omega)
    rw [hnil] at he
    have hsp : t.data.toList = t.data.toList.take (t.size - 1) ++ [c] := by rw [← he, List.take_append_drop]
    have e13 : ((c.toNat : Nat) : Int) = 13 ↔ c = 13 := ue c 13 (by omega)
    rw [hb]
    have hsuf : List.isSuffixOf [13] t.data.toList = decide (c = 13) := by
      rw [Bool.eq_iff_iff, decide_eq_true_iff, List.isSuffixOf_iff_suffix]
      constructor
      · rintro ⟨p, hp⟩
        rw [hsp] at hp
        have := List.append_inj' hp rfl
        exact (List.cons.inj this.2).1.symm
      · rintro rfl
        exact ⟨_, hsp.symm⟩
    rw [hsuf]
    by_cases c1 : c = 13
    · rw [if_pos (show t.size ≠ 0 ∧ (c.toNat : Int) = 13 from ⟨h0, e13.2 c1⟩), decide_eq_true c1, if_pos rfl]
      apply ba_ext
      rw [take_extract]
      simp only [List.length_cons, List.length_nil]
      rw [← hsz]
    · rw [if_neg (show ¬ (t.size ≠ 0 ∧ (c.toNat : Int) = 13) from fun h => c1 (e13.1 h.2)), decide_eq_false c1, if_neg (by decide)]
def lexR : Except (Int × Int × Int) (List S36) → List S36 × Int × Int × Int
  | .ok l => (l, 0, 0, 0)
  | .error (e, n, i) => ([], e, n, i)
/-- What one line gives. -/
def stepR (s : ByteArray) (n : Int) (K : List S36 → Except (Int × Int × Int) (List S36)) : Except (Int × Int × Int) (List S36) :=
  match looksAt s with
  | some (e, i) => .error (e, n, i)
  | none => match readF s n with
    | .error j => .error (151, n, (j : Int))
    | .ok l => K l
theorem lexFrom_succ (f : Nat) (s : ByteArray) (n : Nat) (acc : List S36) (h : s.size ≠ 0) : lexFrom (f + 1) s n acc = stepR (lineOf s) (n : Int) fun l => lexFrom f (restOf s) (n + 1) (acc ++ l) := by
  rw [lexFrom, if_neg h]
  unfold stepR
  cases looksAt (lineOf s) with
  | some p => rfl
  | none => cases readF (lineOf s) (n : Int) <;> rfl
theorem lineR_cases (s : ByteArray) (n : Int) : (∃ l, lineR s n = (l, 0, 0, 0) ∧ l.length ≤ s.size + 1 ∧ ∀ K, stepR s n K = K l) ∨ (∃ e i, e ≠ 0 ∧ lineR s n = ([], e, n, i) ∧ ∀ K, stepR s n K = .error (e, n, i)) := by
  unfold lineR stepR
  cases hk : looksAt s with
  | some p =>
    obtain ⟨e, i⟩ := p
    refine .inr ⟨e, i, ?_, rfl, fun _ => rfl⟩
    unfold looksAt at hk
    split at hk
    · injection hk with hk; injection hk with hk _; omega
    · split at hk
      · injection hk with hk; injection hk with hk _; omega
      · cases hk
  | none =>
    cases hr : readF s n with
    | ok l => exact .inl ⟨l, rfl, readF_len hr, fun _ => rfl⟩
    | error j => exact .inr ⟨151, (j : Int), by decide, rfl, fun _ => rfl⟩
theorem rLex_scan (s : ByteArray) (hs : s.size ≤ 65536) (acc : List S36) (n : Int) (b : Nat) (v : List S36 × Int × Int × Int) (d : Nat) : ∀ i : Nat, b ≤ i → i + d ≤ s.size → (∀ j, i ≤ j → j < i + d → bn s j ≠ 10) →
    Ev (fun k => portcullisref15_Lex.l0 k s acc n (b : Int) ((i + d : Nat) : Int)) v → Ev (fun k => portcullisref15_Lex.l0 k s acc n (b : Int) (i : Int)) v := by
  induction d with
  | zero => intro i _ _ _ h; exact h
  | succ d ih =>
    intro i hb hi hno hk
    have h10 : ¬ bn s i = 10 := hno i (by omega) (by omega)
    refine Ev.of_eq1 (fun k => by rw [portcullisref15_Lex.l0]) ?_
    simp only [if_pos (show (i : Int) ≤ (s.size : Int) by omega), if_pos (show (i : Int) < (s.size : Int) by omega), if_pos (show (0 : Int) ≤ (i : Int) by omega), bt_bn, if_neg h10]
    refine Ev.of_eq1 (fun k => by rw [portcullisref15_Lex.j1]) ?_
    simp only [if_true]
    rw [show wrap64 ((i : Int) + 1) = ((i + 1 : Nat) : Int) from by rw [w64 (by omega) (by omega)]; omega]
    refine ih (i + 1) (by omega) (by omega) (fun j h1 h2 => hno j (by omega) (by omega)) ?_
    rw [show i + 1 + d = i + (d + 1) by omega]
    exact hk
/-- The line is taken. -/
theorem rLex_take (s t : ByteArray) (ht : t.size ≤ 65536) (acc : List S36) (hacc : acc.length ≤ 65537) (n i : Nat) (hn : n ≤ 65537) (hi : i ≤ 65536) (cr : Bool) (hcr : cr = true → t.size ≠ 0)
    (K : List S36 → Except (Int × Int × Int) (List S36))
    (hK : ∀ l : List S36, l.length ≤ (if cr then t.extract 0 (t.size - 1) else t).size + 1 → Ev (fun k => portcullisref15_Lex.l0 k s (acc ++ l) ((n + 1 : Nat) : Int) ((i + 1 : Nat) : Int) ((i + 1 : Nat) : Int)) (lexR (K l))) :
    Ev (fun k => portcullisref15_Lex.j2 k s acc (n : Int) (i : Int) t cr) (lexR (stepR (if cr then t.extract 0 (t.size - 1) else t) (n : Int) K)) := by
  obtain ⟨u, hu⟩ : ∃ u, u = (if cr then t.extract 0 (t.size - 1) else t) := ⟨_, rfl⟩
  have hus : u.size ≤ 65536 := by
    rw [hu]
    split
    · rw [ByteArray.size_extract]; omega
    · exact ht
  rw [← hu] at hK ⊢
  have hw1 : wrap64 ((n : Int) + 1) = ((n + 1 : Nat) : Int) := by rw [w64 (by omega) (by omega)]; omega
  have hw2 : wrap64 ((i : Int) + 1) = ((i + 1 : Nat) : Int) := by rw [w64 (by omega) (by omega)]; omega
  refine Ev.of_eq1 (fun k => by rw [portcullisref15_Lex.j2]) ?_
  have go : Ev (fun k => (portcullisref15_line.f k u (n : Int)).bind fun bt => (if bt.2.1 = 0 then (if acc.length + bt.1.length < 3518437208883 then (portcullisref15_Lex.l0 k s (acc ++ bt.1) (wrap64 ((n : Int) + 1)) (wrap64 ((i : Int) + 1)) (wrap64 ((i : Int) + 1))) else (none)) else (some (([] : List S36), bt.2.1, bt.2.2.1, bt.2.2.2)))) (lexR (stepR u (n : Int) K)) := by
    have hl := rLine u (by omega) (n : Int)
    rcases lineR_cases u (n : Int) with ⟨l, h1, h2, h3⟩ | ⟨e, j, h1, h2, h3⟩
    · rw [h1] at hl
      refine Ev.bind hl ?_
      rw [h3]
      simp only [if_true, if_pos (show acc.length + l.length < 3518437208883 by omega), hw1, hw2]
      exact hK l h2
    · rw [h2] at hl
      refine Ev.bind hl ?_
      rw [h3]
      simp only [if_neg h1, lexR]
      exact Ev.const _
  cases cr with
  | true =>
    have h0 := hcr rfl
    simp only [if_true] at hu
    have hw3 : wrap64 ((t.size : Int) - 1) = ((t.size - 1 : Nat) : Int) := by rw [w64 (by omega) (by omega)]; omega
    simp only [if_true, hw3, if_pos (show (0 : Int) ≤ ((t.size - 1 : Nat) : Int) by omega), if_pos (show ((t.size - 1 : Nat) : Int) ≤ (t.size : Int) by omega), Int.toNat_natCast]
    rw [← hu]
    exact go
  | false =>
    simp only [Bool.false_eq_true, if_false] at hu
    simp only [Bool.false_eq_true, if_false]
    rw [← hu]
    exact go
theorem rLex_l0 (s : ByteArray) (hs : s.size ≤ 65536) (f : Nat) : ∀ (b n : Nat) (acc : List S36), b ≤ s.size → s.size < b + f → n ≤ b + 1 → acc.length ≤ b →
    Ev (fun k => portcullisref15_Lex.l0 k s acc (n : Int) (b : Int) (b : Int)) (lexR (lexFrom f (s.extract b s.size) n acc)) := by
  induction f with
  | zero => intro b n acc h h2; omega
  | succ f ih =>
    intro b n acc h h2 hn hacc
    have hRs : (s.extract b s.size).size = s.size - b := by rw [ByteArray.size_extract]; omega
    by_cases hb : b = s.size
    · have h0 : (s.extract b s.size).size = 0 := by omega
      rw [lexFrom, if_pos h0]
      refine Ev.of_eq1 (fun k => by rw [portcullisref15_Lex.l0]) ?_
      simp only [if_pos (show (b : Int) ≤ (s.size : Int) by omega), if_neg (show ¬ (b : Int) < (s.size : Int) by omega), if_pos (show (b : Int) = (s.size : Int) by omega)]
      rw [(show ((b : Int) == (s.size : Int)) = true by rw [beq_iff_eq]; omega)]
      refine Ev.of_eq1 (fun k => by rw [portcullisref15_Lex.j1]) ?_
      simp only [if_true]
      refine Ev.of_eq1 (fun k => by rw [portcullisref15_Lex.l0]) ?_
      simp only [w64 (n := (b : Int) + 1) (by omega) (by omega), if_neg (show ¬ (b : Int) + 1 ≤ (s.size : Int) by omega), lexR]
      exact Ev.const _
    · have h0 : (s.extract b s.size).size ≠ 0 := by omega
      rw [lexFrom_succ f _ n acc h0]
      have hdata := drop_extract s b
      by_cases hno : Lib.indexByte (s.data.toList.drop b) 10 = -1
      · -- no line feed
        have hcut : cutA (s.extract b s.size) 10 = (s.extract b s.size, ⟨#[]⟩, false) := by unfold cutA; rw [hdata, if_pos hno]
        have hlo : lineOf (s.extract b s.size) = s.extract b s.size := by unfold lineOf; rw [hcut]; rfl
        have hre : restOf (s.extract b s.size) = ⟨#[]⟩ := by unfold restOf; rw [hcut]
        rw [hlo, hre]
        have hmem := indexByte_no 10 _ hno
        have hnb : ∀ j, b ≤ j → j < b + (s.size - b) → bn s j ≠ 10 := by
          intro j h1 h3 h10
          obtain ⟨c, he, hc⟩ := dropc s j (by omega)
          have e10 : ((c.toNat : Nat) : Int) = 10 ↔ c = 10 := ue c 10 (by omega)
          rw [hc] at h10
          have hc10 := e10.1 h10
          subst hc10
          apply hmem
          have : (10 : UInt8) ∈ s.data.toList.drop j := by rw [he]; simp
          rw [show j = b + (j - b) by omega, ← List.drop_drop] at this
          exact List.mem_of_mem_drop this
        refine rLex_scan s hs acc (n : Int) b _ (s.size - b) b (by omega) (by omega) hnb ?_
        rw [show b + (s.size - b) = s.size by omega]
        refine Ev.of_eq1 (fun k => by rw [portcullisref15_Lex.l0]) ?_
        simp only [if_pos (show (s.size : Int) ≤ (s.size : Int) by omega), if_neg (show ¬ (s.size : Int) < (s.size : Int) by omega), if_true]
        rw [(show ((b : Int) == (s.size : Int)) = false by rw [beq_eq_false_iff_ne]; omega)]
        refine Ev.of_eq1 (fun k => by rw [portcullisref15_Lex.j1]) ?_
        simp only [Bool.false_eq_true, if_false, if_pos (show (0 : Int) ≤ (b : Int) by omega), if_pos (show (b : Int) ≤ (s.size : Int) by omega), if_pos (show (s.size : Int) ≤ (s.size : Int) by omega), if_neg (show ¬ (s.size : Int) < (s.size : Int) by omega), Int.toNat_natCast]
        have := rLex_take s (s.extract b s.size) (by omega) acc (by omega) n s.size (by omega) (by omega) false (by intro h; cases h) (fun l => lexFrom f ⟨#[]⟩ (n + 1) (acc ++ l)) (by
          intro l hl
          have hf : lexFrom f ⟨#[]⟩ (n + 1) (acc ++ l) = .ok (acc ++ l) := by cases f <;> rfl
          rw [hf]
          refine Ev.of_eq1 (fun k => by rw [portcullisref15_Lex.l0]) ?_
          simp only [if_neg (show ¬ ((s.size + 1 : Nat) : Int) ≤ (s.size : Int) by omega), lexR]
          exact Ev.const _)
        simp only [Bool.false_eq_true, if_false] at this
        exact this
      · have hge := Lib.indexByte_ge (s.data.toList.drop b) 10
        obtain ⟨p, hp⟩ : ∃ p : Nat, Lib.indexByte (s.data.toList.drop b) 10 = (p : Int) := ⟨(Lib.indexByte (s.data.toList.drop b) 10).toNat, by omega⟩
        obtain ⟨h3, h4, h5⟩ := indexByte_yes 10 _ p hp
        rw [len_drop] at h5
        have hcut : cutA (s.extract b s.size) 10 = (s.extract b (b + p), s.extract (b + (p + 1)) s.size, true) := by
          unfold cutA
          rw [hdata, if_neg hno, hp, Int.toNat_natCast, extract_front s b p (by omega), extract_back]
        have hlo : lineOf (s.extract b s.size) = trimCR (s.extract b (b + p)) := by unfold lineOf; rw [hcut]; rfl
        have hre : restOf (s.extract b s.size) = s.extract (b + (p + 1)) s.size := by unfold restOf; rw [hcut]
        have hts : (s.extract b (b + p)).size = p := by rw [ByteArray.size_extract]; omega
        have h10 : bn s (b + p) = 10 := by
          obtain ⟨c, he, hc⟩ := dropc s (b + p) (by omega)
          have : (s.data.toList.drop b).drop p = 10 :: (s.data.toList.drop b).drop (p + 1) := by
            have hl : ((s.data.toList.drop b).take p).length = p := by rw [List.length_take, len_drop]; omega
            have h6 : (s.data.toList.drop b).drop p = ((s.data.toList.drop b).take p ++ 10 :: (s.data.toList.drop b).drop (p + 1)).drop p := by rw [← h3]
            rw [h6]
            exact List.drop_left' hl
          rw [List.drop_drop, he] at this
          have := (List.cons.inj this).1
          rw [hc, this]
          rfl
        have hnb : ∀ j, b ≤ j → j < b + p → bn s j ≠ 10 := by
          intro j h1 h6 h10
          obtain ⟨c, he, hc⟩ := dropc s j (by omega)
          have e10 : ((c.toNat : Nat) : Int) = 10 ↔ c = 10 := ue c 10 (by omega)
          rw [hc] at h10
          have hc10 := e10.1 h10
          subst hc10
          apply h4
          have h7 : (s.data.toList.drop b)[j - b]? = some 10 := by
            rw [List.getElem?_drop, show b + (j - b) = j by omega]
            have := congrArg (·[0]?) he
            simpa [List.getElem?_drop] using this
          have h8 : ((s.data.toList.drop b).take p)[j - b]? = some 10 := by rw [List.getElem?_take_of_lt (by omega)]; exact h7
          exact List.mem_of_getElem? h8
        refine rLex_scan s hs acc (n : Int) b _ p b (by omega) (by omega) hnb ?_
        refine Ev.of_eq1 (fun k => by rw [portcullisref15_Lex.l0]) ?_
        simp only [if_pos (show ((b + p : Nat) : Int) ≤ (s.size : Int) by omega), if_pos (show ((b + p : Nat) : Int) < (s.size : Int) by omega), if_pos (show (0 : Int) ≤ ((b + p : Nat) : Int) by omega), bt_bn, h10, if_true, if_neg (show ¬ ((b + p : Nat) : Int) = (s.size : Int) by omega)]
        refine Ev.of_eq1 (fun k => by rw [portcullisref15_Lex.j1]) ?_
        simp only [Bool.false_eq_true, if_false, if_pos (show (0 : Int) ≤ (b : Int) by omega), if_pos (show (b : Int) ≤ ((b + p : Nat) : Int) by omega), if_pos (show ((b + p : Nat) : Int) ≤ (s.size : Int) by omega), if_pos (show ((b + p : Nat) : Int) < (s.size : Int) by omega), Int.toNat_natCast]
        rw [hlo, hre, trimCR_eq, hts]
        have hnext : ∀ (l : List S36), l.length ≤ p + 1 → Ev (fun k => portcullisref15_Lex.l0 k s (acc ++ l) ((n + 1 : Nat) : Int) ((b + p + 1 : Nat) : Int) ((b + p + 1 : Nat) : Int)) (lexR (lexFrom f (s.extract (b + (p + 1)) s.size) (n + 1) (acc ++ l))) := by
          intro l hl
          exact ih (b + p + 1) (n + 1) (acc ++ l) (by omega) (by omega) (by omega) (by rw [List.length_append]; omega)
        by_cases hp0 : p = 0
        · have hnil : (s.extract b (b + p)).toList = [] := by
            rw [Lib.toList_data]
            exact List.eq_nil_of_length_eq_zero (by rw [← Lib.size_eq]; omega)
          rw [if_neg (fun h => h.1 hp0)]
          simp only [if_pos hnil]
          have := rLex_take s (s.extract b (b + p)) (by omega) acc (by omega) n (b + p) (by omega) (by omega) false (by intro h; cases h) (fun l => lexFrom f (s.extract (b + (p + 1)) s.size) (n + 1) (acc ++ l)) (by
            intro l hl
            simp only [Bool.false_eq_true, if_false, hts] at hl
            exact hnext l hl)
          simp only [Bool.false_eq_true, if_false] at this
          exact this
        · have hnil : ¬ (s.extract b (b + p)).toList = [] := by
            rw [Lib.toList_data]
            intro hh
            rw [Lib.size_eq, hh] at hts
            simp at hts
            omega
          have hw3 : wrap64 ((p : Int) - 1) = ((p - 1 : Nat) : Int) := by rw [w64 (by omega) (by omega)]; omega
          simp only [if_neg hnil, hts, hw3, if_pos (show (0 : Int) ≤ ((p - 1 : Nat) : Int) by omega), if_pos (show ((p - 1 : Nat) : Int) < (p : Int) by omega), bt_bn]
          by_cases c13 : bn (s.extract b (b + p)) (p - 1) = 13
          · rw [if_pos ⟨hp0, c13⟩, (show (bn (s.extract b (b + p)) (p - 1) == 13) = true by rw [beq_iff_eq]; exact c13)]
            have := rLex_take s (s.extract b (b + p)) (by omega) acc (by omega) n (b + p) (by omega) (by omega) true (by intro _; omega) (fun l => lexFrom f (s.extract (b + (p + 1)) s.size) (n + 1) (acc ++ l)) (by
              intro l hl
              simp only [if_true, ByteArray.size_extract, hts] at hl
              exact hnext l (by omega))
            simp only [if_true, hts] at this
            exact this
          · rw [if_neg (fun h => c13 h.2), (show (bn (s.extract b (b + p)) (p - 1) == 13) = false by rw [beq_eq_false_iff_ne]; exact c13)]
            have := rLex_take s (s.extract b (b + p)) (by omega) acc (by omega) n (b + p) (by omega) (by omega) false (by intro h; cases h) (fun l => lexFrom f (s.extract (b + (p + 1)) s.size) (n + 1) (acc ++ l)) (by
              intro l hl
              simp only [Bool.false_eq_true, if_false, hts] at hl
              exact hnext l hl)
            simp only [Bool.false_eq_true, if_false] at this
            exact this
theorem rLex (s : ByteArray) : ∃ r, lex_Lex.f s = some r ∧ Ev (fun k => portcullisref15_Lex.f k s) r := by
  unfold lex_Lex.f portcullisref15_Lex.f
  by_cases hs : 65536 < s.size
  · refine ⟨_, by rw [if_pos hs], ?_⟩
    simp only [if_pos (show (s.size : Int) > 65536 by omega)]
    exact Ev.const _
  · simp only [if_neg (show ¬ (s.size : Int) > 65536 by omega), if_neg hs]
    have h := rLex_l0 s (by omega) (s.size + 1) 0 1 [] (by omega) (by omega) (by omega) (by simp)
    rw [extract_all] at h
    refine ⟨lexR (lexF s), ?_, h⟩
    cases lexF s with
    | ok l => rfl
    | error p => obtain ⟨e, n, i⟩ := p; rfl
theorem Same_refl (l : List S36) (h3 : l.length ≤ 1000000000000) (loose : Bool) : Ev (fun k => portcullisref15_Same.f k l l loose) true := by
  unfold portcullisref15_Same.f
  simp only [if_true]
  have key : ∀ d i : Nat, i ≤ l.length → l.length ≤ i + d → Ev (fun k => portcullisref15_Same.l0 k l l loose (i : Int)) true := by
    intro d
    induction d with
    | zero =>
      intro i h1 h2
      refine Ev.of_eq1 (fun k => by rw [portcullisref15_Same.l0]) ?_
      simp only [if_neg (show ¬ (i : Int) < (l.length : Int) by omega)]
      exact Ev.const _
    | succ d ih =>
      intro i h1 h2
      refine Ev.of_eq1 (fun k => by rw [portcullisref15_Same.l0]) ?_
      by_cases hi : i < l.length
      · have := ih (i + 1) (by omega) (by omega)
        simp only [if_pos (show (i : Int) < (l.length : Int) by omega), if_pos (show (0 : Int) ≤ (i : Int) by omega), if_true, beq_self_eq_true, Bool.not_true, Bool.false_or, Bool.false_eq_true, if_false, ite_self]
        rw [show wrap64 ((i : Int) + 1) = ((i + 1 : Nat) : Int) from by rw [w64 (by omega) (by omega)]; omega]
        exact this
      · simp only [if_neg (show ¬ (i : Int) < (l.length : Int) by omega)]
        exact Ev.const _
  exact key l.length 0 (by omega) (by omega)
set_option maxRecDepth 1000000 in
theorem alive_true : portcullislaw15_alive.f = some true := by decide +kernel
theorem lexFrom_len : ∀ {f n : Nat} {s : ByteArray} {acc l : List S36}, s.size ≤ 65536 → lexFrom f s n acc = .ok l → l.length ≤ acc.length + 65537 * f := by
  intro f
  induction f with
  | zero => intro n s acc l _ h; unfold lexFrom at h; injection h with h; subst h; omega
  | succ f ih =>
    intro n s acc l hs h
    by_cases h0 : s.size = 0
    · unfold lexFrom at h
      rw [if_pos h0] at h
      injection h with h
      subst h
      omega
    · rw [lexFrom_succ f s n acc h0] at h
      have h1 := lineOf_size s
      have h2 := restOf_lt s h0
      rcases lineR_cases (lineOf s) (n : Int) with ⟨l1, g1, g2, g3⟩ | ⟨e, j, g1, g2, g3⟩
      · rw [g3] at h
        have := ih (by omega) h
        rw [List.length_append] at this
        omega
      · rw [g3] at h
        cases h
theorem lexF_len {s : ByteArray} {l : List S36} (hs : s.size ≤ 65536) (h : lexF s = .ok l) : l.length ≤ 4295098369 := by
  have h2 : l.length ≤ 0 + 65537 * (s.size + 1) := lexFrom_len hs h
  have h3 : 65537 * (s.size + 1) ≤ 65537 * 65537 := Nat.mul_le_mul_left _ (by omega)
  refine Nat.le_trans h2 ?_
  rw [Nat.zero_add]
  exact Nat.le_trans h3 (by decide)
theorem lex_len {s : ByteArray} {r : List S36 × Int × Int × Int} (h : lex_Lex.f s = some r) : r.1.length ≤ 4295098369 := by
  unfold lex_Lex.f at h
  by_cases hs : 65536 < s.size
  · rw [if_pos hs] at h
    have h := (Option.some.inj h).symm
    rw [h]
    simp
  · rw [if_neg hs] at h
    cases hl : lexF s with
    | ok l =>
      rw [hl] at h
      have h := (Option.some.inj h).symm
      rw [h]
      exact lexF_len (by omega) hl
    | error p =>
      obtain ⟨e, n, i⟩ := p
      rw [hl] at h
      have h := (Option.some.inj h).symm
      rw [h]
      simp
theorem LexReads : portcullislaw15_LexReads.Pure := by
  intro a0 _
  have key : ∀ b : Bool, Ev (fun k => portcullislaw15_LexReads.j0 k a0 b) true := by
    intro b
    refine Ev.of_eq1 (fun k => by rw [portcullislaw15_LexReads.j0]) ?_
    cases b with
    | true =>
      simp only [if_true, alive_true, Option.bind_some]
      exact Ev.const _
    | false =>
      obtain ⟨r, h1, h2⟩ := rLex a0
      obtain ⟨r0, r1, r2, r3⟩ := r
      have hlen := lex_len h1
      have h1' : Ev (fun _ : Nat => lex_Lex.f a0) (r0, r1, r2, r3) := by rw [h1]; exact Ev.const _
      simp only [Bool.false_eq_true, if_false]
      refine Ev.bind h1' (Ev.bind h2 ?_)
      simp only [beq_self_eq_true, Bool.and_self, if_true]
      refine Ev.bind (Same_refl r0 (by simp only at hlen; omega) false) ?_
      simp only [if_true, alive_true, Option.bind_some]
      exact Ev.const _
  unfold portcullislaw15_LexReads.f
  split
  · split
    · exact (key _).get
    · exact (key _).get
  · exact (key _).get
end Go.Proofs.YtfndanccnjggfaaDoor.Pure

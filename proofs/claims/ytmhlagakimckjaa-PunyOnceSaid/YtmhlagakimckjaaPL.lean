import Derived.Test.YtmhlagakimckjaaPK
/- What is proved: what is written is read as itself, for the plain functions. -/
namespace Go.Proofs.Ytmhlagakimckjaa.Pure
open Go.RowKit Go.Proofs.Ytmhlagakimckjaa.Q Go.Proofs.YtmhlagakimckjaaW.PrintWords Go.Proofs.YtmhlagakimckjaaW.PrintLast Go.Proofs.YtmhlagakimckjaaW.PrintMore
set_option linter.unusedVariables false
set_option linter.unusedSimpArgs false

def Dec (R out : List Int) (n i bias : Int) (res : List Int × Int) : Prop := ∀ f, R.length ≤ f → decL f R out n i bias = res
theorem Dec.nil (out : List Int) (n i bias : Int) : Dec [] out n i bias (out, 0) := by
  intro f _
  cases f with
  | zero => rfl
  | succ f => unfold decL; rw [if_pos rfl]

theorem dec_step {R out : List Int} {n i bias q n' i' : Int} {res : List Int × Int} (hq : 0 ≤ q) (hi : 0 ≤ i) (hb : i + q ≤ 120000000)
    (hn' : n + (i + q) / ((out.length : Int) + 1) = n') (hi' : (i + q) % ((out.length : Int) + 1) = i') (hsc : sc n' = true)
    (H : Dec R (out.take i'.toNat ++ n' :: out.drop i'.toNat) n' (i' + 1) (adp q ((out.length : Int) + 1) (i == 0)) res) : Dec (digs (q.toNat + 1) q 36 bias ++ R) out n i bias res := by
  intro f hf
  have hl := digs_ne q 36 bias
  rw [List.length_append] at hf
  obtain ⟨f, rfl⟩ : ∃ f', f = f' + 1 := ⟨f - 1, by omega⟩
  have hnum := num_digs bias R (q.toNat + 1) q 0 i 1 (Nat.le_refl _) hq hi (by omega) (by omega) (by omega) (fun _ => by decide)
  rw [show (36 * ((0 : Nat) : Int) + 36) = 36 by decide, show ((0 : Nat) : Int) = 0 by rfl, Int.one_mul, Int.zero_add] at hnum
  unfold decL
  rw [if_neg (fun h => by
    have := congrArg List.length h
    rw [List.length_append, List.length_nil] at this
    omega), hnum]
  simp only
  rw [if_neg (by omega), hn', hi', if_pos hsc, Int.toNat_natCast, List.drop_left' rfl, show i + q - i = q by omega]
  exact H f (by omega)

def leF (n : Int) (l : List Int) : List Int := l.filter fun r => decide (r ≤ n)
def ltF (n : Int) (l : List Int) : List Int := l.filter fun r => decide (r < n)

theorem divmod {t a h c : Int} (h0 : 0 ≤ h) (c0 : 0 ≤ c) (c1 : c ≤ h) (e : t = a * (h + 1) + c) : t / (h + 1) = a ∧ t % (h + 1) = c := by
  subst e
  constructor
  · rw [Int.add_comm, Int.add_mul_ediv_right _ _ (by omega), Int.ediv_eq_zero_of_lt c0 (by omega)]; omega
  · rw [Int.add_comm, Int.add_mul_emod_self_right]; exact Int.emod_eq_of_lt c0 (by omega)

theorem back_in (n b : Int) (hn0 : 128 ≤ n) (hn1 : n ≤ 1114111) (hsc : sc n = true) : ∀ (B A acc out : List Int) (delta bias h nd id : Int),
    A.length + B.length ≤ 63 → out = leF n A ++ ltF n B → h = out.length → id + delta = (n - nd) * (h + 1) + (leF n A).length → 0 ≤ delta → 0 ≤ id → (id == 0) = (h == b) → b ≤ h → 128 ≤ nd → nd ≤ n →
    ∃ (R out' : List Int) (nd' id' : Int), (encIn n b B (acc, delta, bias, h)).1 = acc ++ R ∧ (∀ c ∈ R, 48 ≤ c ∧ c ≤ 122) ∧ out' = leF n (A ++ B) ∧ (encIn n b B (acc, delta, bias, h)).2.2.2 = out'.length ∧
      id' + (encIn n b B (acc, delta, bias, h)).2.1 = (n - nd') * (out'.length + 1) + out'.length ∧ 0 ≤ (encIn n b B (acc, delta, bias, h)).2.1 ∧ 0 ≤ id' ∧ (id' == 0) = ((out'.length : Int) == b) ∧ b ≤ out'.length ∧ 128 ≤ nd' ∧ nd' ≤ n ∧
      ∀ R2 res, Dec R2 out' nd' id' (encIn n b B (acc, delta, bias, h)).2.2.1 res → Dec (R ++ R2) out nd id bias res
  | [], A, acc, out, delta, bias, h, nd, id, hl, ho, hh, ht, hd, hi, hf, hb, hd0, hd1 => by
    have he : out = leF n A := by rw [ho]; simp [ltF]
    have hle : (leF n A).length = out.length := by rw [he]
    refine ⟨[], out, nd, id, by simp [encIn], by simp, by simpa using he, hh, ?_, hd, hi, by rw [← hh]; exact hf, by omega, hd0, hd1, fun R2 res H => H⟩
    show id + delta = _
    rw [ht, hh, hle]
  | r :: B, A, acc, out, delta, bias, h, nd, id, hl, ho, hh, ht, hd, hi, hf, hb, hd0, hd1 => by
    have hassoc : A ++ r :: B = (A ++ [r]) ++ B := by simp
    have hl' : (A ++ [r]).length + B.length ≤ 63 := by simp at hl ⊢; omega
    rw [hassoc]
    unfold encIn
    by_cases c1 : r < n
    · rw [if_pos c1]
      have e1 : leF n (A ++ [r]) = leF n A ++ [r] := by simp [leF, show r ≤ n by omega]
      refine back_in n b hn0 hn1 hsc B (A ++ [r]) acc out (delta + 1) bias h nd id hl' ?_ hh ?_ (by omega) hi hf hb hd0 hd1
      · rw [ho, e1, List.append_assoc]
        congr 1
        simp [ltF, c1]
      · rw [e1, List.length_append, List.length_singleton]
        omega
    · rw [if_neg c1]
      by_cases c2 : r = n
      · rw [if_pos c2]
        subst c2
        have e1 : leF r (A ++ [r]) = leF r A ++ [r] := by simp [leF]
        have e2 : ltF r (r :: B) = ltF r B := by simp [ltF]
        rw [e2] at ho
        have hlen : out.length = (leF r A).length + (ltF r B).length := by rw [ho, List.length_append]
        have hlB : (ltF r B).length ≤ B.length := List.length_filter_le _ _
        have hlA : (leF r A).length ≤ A.length := List.length_filter_le _ _
        simp only [List.length_cons] at hl
        obtain ⟨hq, hm⟩ := divmod (t := id + delta) (a := r - nd) (h := h) (c := (leF r A).length) (by omega) (by omega) (by omega) ht
        have hmul : (r - nd) * (h + 1) ≤ 1114111 * 64 := Int.mul_le_mul (by omega) (by omega) (by omega) (by omega)
        obtain ⟨R, out', nd', id', g1, g2, g3, g4, g5, g6, g7, g8, g9, g10, g11, g12⟩ := back_in r b hn0 hn1 hsc B (A ++ [r]) (acc ++ digs (delta.toNat + 1) delta 36 bias) (leF r A ++ r :: ltF r B) 0 (adp delta (h + 1) (h == b)) (h + 1) r ((leF r A).length + 1) hl'
          (by rw [e1]; simp) (by simp only [List.length_append, List.length_cons]; omega) (by rw [e1, List.length_append, List.length_singleton]; simp) (Int.le_refl _) (by omega)
          (by rw [show ((((leF r A).length : Int) + 1) == 0) = false by rw [beq_eq_false_iff_ne]; omega, show (h + 1 == b) = false by rw [beq_eq_false_iff_ne]; omega]) (by omega) hn0 (Int.le_refl _)
        refine ⟨digs (delta.toNat + 1) delta 36 bias ++ R, out', nd', id', by rw [g1, List.append_assoc], ?_, g3, g4, g5, g6, g7, g8, g9, g10, g11, fun R2 res H => ?_⟩
        · intro c hc
          rcases List.mem_append.1 hc with hc | hc
          · exact digs_bd _ _ _ _ hd c hc
          · exact g2 c hc
        · rw [List.append_assoc]
          have hD := g12 R2 res H
          refine dec_step (n' := r) (i' := (leF r A).length) hd hi (by omega) ?_ ?_ hsc ?_
          · rw [← hh, hq]; omega
          · rw [← hh, hm]
          · rw [Int.toNat_natCast, ho, List.take_left' rfl, List.drop_left' rfl, ← ho, ← hh, hf]
            exact hD
      · rw [if_neg c2]
        have e1 : leF n (A ++ [r]) = leF n A := by simp [leF, show ¬ r ≤ n by omega]
        refine back_in n b hn0 hn1 hsc B (A ++ [r]) acc out delta bias h nd id hl' ?_ hh ?_ hd hi hf hb hd0 hd1
        · rw [ho, e1]
          congr 1
          simp [ltF, c1]
        · rw [e1]; exact ht

theorem sc_valid {l : List Int} (hv : valid l = true) {m : Int} (hm : m ∈ l) (h : 128 ≤ m) : m ≤ 1114111 ∧ sc m = true := by
  have h1 := List.all_eq_true.1 hv m hm
  unfold Go.Lib.validRune at h1
  have h2 := of_decide_eq_true h1
  refine ⟨by omega, ?_⟩
  unfold sc
  rw [decide_eq_true_eq]
  omega

theorem back_out (l : List Int) (hl : l.length ≤ 63) (hv : valid l = true) (b : Int) : ∀ (ms : List Int) (n : Int) (acc out : List Int) (delta bias nd id : Int),
    ms.Pairwise (· < ·) → (∀ r, r ∈ ms ↔ r ∈ l ∧ n ≤ r) → out = ltF n l → id + delta = (n - nd) * (out.length + 1) → 0 ≤ delta → 0 ≤ id → (id == 0) = ((out.length : Int) == b) → b ≤ out.length → 128 ≤ nd → nd ≤ n →
    ∃ R, encOut l b ms n (acc, delta, bias, out.length) = acc ++ R ∧ (∀ c ∈ R, 48 ≤ c ∧ c ≤ 122) ∧ Dec R out nd id bias (l, 0)
  | [], n, acc, out, delta, bias, nd, id, hp, hm, ho, ht, hd, hi, hf, hb, hd0, hd1 => by
    refine ⟨[], by simp [encOut], by simp, ?_⟩
    have : out = l := by
      rw [ho]
      unfold ltF
      rw [List.filter_eq_self]
      intro r hr
      rw [decide_eq_true_eq]
      rcases Int.lt_or_le r n with h1 | h1
      · exact h1
      · exact absurd ((hm r).2 ⟨hr, h1⟩) (by simp)
    rw [this]
    exact Dec.nil _ _ _ _
  | m :: ms, n, acc, out, delta, bias, nd, id, hp, hm, ho, ht, hd, hi, hf, hb, hd0, hd1 => by
    have hml := (hm m).1 (by simp)
    obtain ⟨hm1, hsc⟩ := sc_valid hv hml.1 (by omega)
    have ho2 : out = ltF m l := by
      rw [ho]
      refine List.filter_congr fun r hr => ?_
      rw [decide_eq_decide]
      refine ⟨fun h => by omega, fun h => ?_⟩
      rcases Int.lt_or_le r n with h1 | h1
      · exact h1
      · rcases List.mem_cons.1 ((hm r).2 ⟨hr, h1⟩) with h2 | h2
        · omega
        · have := (List.pairwise_cons.1 hp).1 r h2; omega
    have hsum : id + (delta + (m - n) * ((out.length : Int) + 1)) = (m - nd) * (out.length + 1) := by
      rw [show m - nd = (n - nd) + (m - n) by omega, Int.add_mul, ← ht]; omega
    have hpos : 0 ≤ (m - n) * ((out.length : Int) + 1) := Int.mul_nonneg (by omega) (by omega)
    obtain ⟨R, out', nd', id', g1, g2, g3, g4, g5, g6, g7, g8, g9, g10, g11, g12⟩ := back_in m b (by omega) hm1 hsc l [] acc out (delta + (m - n) * ((out.length : Int) + 1)) bias out.length nd id (by simp; omega) (by rw [ho2]; simp [leF]) rfl
      (by rw [hsum]; simp [leF]) (by omega) hi hf hb hd0 (by omega)
    have hrest : ∀ r, r ∈ ms ↔ r ∈ l ∧ m + 1 ≤ r := fun r => by
      refine ⟨fun hr => ⟨((hm r).1 (List.mem_cons_of_mem _ hr)).1, (List.pairwise_cons.1 hp).1 r hr⟩, fun ⟨h1, h2⟩ => ?_⟩
      rcases List.mem_cons.1 ((hm r).2 ⟨h1, by omega⟩) with h3 | h3
      · omega
      · exact h3
    have ho3 : out' = ltF (m + 1) l := by
      rw [g3, List.nil_append]
      refine List.filter_congr fun r hr => ?_
      rw [decide_eq_decide]
      omega
    obtain ⟨R2, k1, k2, k3⟩ := back_out l hl hv b ms (m + 1) (acc ++ R) out' ((encIn m b l (acc, delta + (m - n) * ((out.length : Int) + 1), bias, (out.length : Int))).2.1 + 1) (encIn m b l (acc, delta + (m - n) * ((out.length : Int) + 1), bias, (out.length : Int))).2.2.1 nd' id' (List.pairwise_cons.1 hp).2 hrest ho3
      (by rw [← Int.add_assoc, g5, show m + 1 - nd' = (m - nd') + 1 by omega, Int.add_mul (m - nd') 1, Int.one_mul]; omega) (by omega) g7 g8 g9 g10 (by omega)
    refine ⟨R ++ R2, ?_, ?_, g12 R2 _ k3⟩
    · unfold encOut
      rw [← List.append_assoc, ← k1]
      rw [← g1, ← g4]
    · intro c hc
      rcases List.mem_append.1 hc with hc | hc
      · exact g2 c hc
      · exact k2 c hc

theorem back (l : List Int) (hl : l.length ≤ 63) (hv : valid l = true) : ∃ R, encO l = start l ++ R ∧ (∀ c ∈ R, 48 ≤ c ∧ c ≤ 122) ∧ Dec R (basics l) 128 0 72 (l, 0) :=
  back_out l hl hv (basics l).length (kinds l) 128 (start l) (basics l) 0 72 128 0 (kinds_pair l) (mem_kinds l) rfl (by simp) (Int.le_refl _) (Int.le_refl _) (by simp) (Int.le_refl _) (Int.le_refl _) (Int.le_refl _)

theorem bytes_str (o : List Int) (h : ∀ c ∈ o, 0 ≤ c ∧ c ≤ 255) : bytesOf (strOfNums o) = o := by
  unfold bytesOf strOfNums
  simp only [List.map_map]
  conv => rhs; rw [← List.map_id o]
  refine List.map_congr_left fun c hc => ?_
  have := h c hc
  simp only [Function.comp, id]
  show ((UInt8.ofNat c.toNat).toNat : Int) = c
  rw [UInt8.toNat_ofNat']
  omega

theorem start_bd {l : List Int} (hv : valid l = true) : ∀ c ∈ start l, 0 ≤ c ∧ c ≤ 127 := by
  intro c hc
  have hb : ∀ c ∈ basics l, 0 ≤ c ∧ c ≤ 127 := by
    intro c hc
    have hc := List.mem_filter.1 hc
    have := valid_bd hv c hc.1
    have := of_decide_eq_true hc.2
    omega
  unfold start at hc
  split at hc
  · rcases List.mem_append.1 hc with hc | hc
    · exact hb c hc
    · rw [List.mem_singleton] at hc; omega
  · exact hb c hc
theorem encO_bd {l : List Int} (hl : l.length ≤ 63) (hv : valid l = true) : ∀ c ∈ encO l, 0 ≤ c ∧ c ≤ 127 := by
  intro c hc
  obtain ⟨R, h1, h2, _⟩ := back l hl hv
  rw [h1] at hc
  rcases List.mem_append.1 hc with hc | hc
  · exact start_bd hv c hc
  · have := h2 c hc; omega

theorem high_false {o : List Int} (h : ∀ c ∈ o, c ≤ 127) : high o = false := by
  unfold high
  rw [List.any_eq_false]
  intro c hc
  have := h c hc
  simp; omega

/-- What is written is read as itself. -/
theorem encdec (l : List Int) (hl : l.length ≤ 63) (hv : valid l = true) (ho : (encO l).length ≤ 63) : decS (strOfNums (encO l)) = (l, 0) := by
  have hbd := encO_bd hl hv
  have hby : bytesOf (strOfNums (encO l)) = encO l := bytes_str _ (fun c hc => by have := hbd c hc; omega)
  have hsz : (strOfNums (encO l)).size = (encO l).length := by rw [← bytesOf_length, hby]
  unfold decS
  rw [if_neg (by omega), hby, if_neg (by rw [high_false fun c hc => (hbd c hc).2]; decide)]
  obtain ⟨R, h1, h2, h3⟩ := back l hl hv
  rw [h1] at ho ⊢
  unfold start at ho ⊢
  by_cases c : 0 < (basics l).length
  · rw [if_pos c] at ho ⊢
    rw [List.append_assoc, List.singleton_append]
    have hla : lastH (basics l ++ 45 :: R) 0 0 = 0 + ((basics l).length : Nat) := lastH_at _ 0 0 (basics l).length (by simp) (fun j hj x hx => by
      rw [List.getElem?_append_right (by omega)] at hx
      obtain ⟨j, rfl⟩ : ∃ k, j = (basics l).length + 1 + k := ⟨j - (basics l).length - 1, by omega⟩
      rw [show (basics l).length + 1 + j - (basics l).length = j + 1 by omega, List.getElem?_cons_succ] at hx
      have := h2 x (List.mem_of_getElem? hx)
      omega)
    rw [hla, if_pos (by omega)]
    rw [show (0 + ((basics l).length : Int) + 1).toNat = (basics l).length + 1 by omega, show (0 + ((basics l).length : Int)).toNat = (basics l).length by omega]
    rw [List.take_left' rfl, show basics l ++ 45 :: R = (basics l ++ [45]) ++ R by simp, List.drop_left' (by simp)]
    exact h3 64 (by simp at ho; omega)
  · rw [if_neg c] at ho ⊢
    have hb0 : basics l = [] := List.length_eq_zero_iff.1 (by omega)
    rw [hb0, List.nil_append] at ho ⊢
    rw [lastH_none R 0 0 (fun x hx => by have := h2 x hx; omega), if_neg (by decide)]
    rw [hb0] at h3
    exact h3 64 (by omega)
end Go.Proofs.Ytmhlagakimckjaa.Pure

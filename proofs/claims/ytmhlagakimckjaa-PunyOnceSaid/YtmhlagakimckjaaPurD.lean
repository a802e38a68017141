import Derived.Test.YtmhlagakimckjaaQ5
import Derived.Test.YtmhlagakimckjaaQ6
import Derived.Test.YtmhlagakimckjaaQ4
import Derived.Test.YtmhlagakimckjaaQ9
import Derived.Laws.RangeString
import Derived.Laws.RangeAny
import Derived.Test.YtmhlagakimckjaaQ8
/- What is proved: what both Adapts come to, as one plain function, for deltas below 2^41. -/
namespace Go.Proofs.Ytmhlagakimckjaa.Pure
open Go.RowKit Go.Proofs.Ytmhlagakimckjaa.Q Go.Proofs.YtmhlagakimckjaaW.PrintWords Go.Proofs.YtmhlagakimckjaaW.PrintLast Go.Proofs.YtmhlagakimckjaaW.PrintMore
set_option linter.unusedVariables false
set_option linter.unusedSimpArgs false

/-- From some number of rounds on, v. -/
def Ev {α : Type} (g : Nat → Option α) (v : α) : Prop := ∃ k0, ∀ k, k0 ≤ k → g k = some v
theorem Ev.const {α : Type} (v : α) : Ev (fun _ => some v) v := ⟨0, fun _ _ => rfl⟩
theorem Ev.of_eq {α : Type} {g h : Nat → Option α} {v : α} (e : ∀ k, g k = h k) (H : Ev h v) : Ev g v := by
  obtain ⟨k0, hk⟩ := H
  exact ⟨k0, fun k hle => (e k).trans (hk k hle)⟩
theorem Ev.of_eq1 {α : Type} {g h : Nat → Option α} {v : α} (e : ∀ k, g (k + 1) = h k) (H : Ev h v) : Ev g v := by
  obtain ⟨k0, hk⟩ := H
  refine ⟨k0 + 1, fun k hle => ?_⟩
  obtain ⟨j, rfl⟩ : ∃ j, k = j + 1 := ⟨k - 1, by omega⟩
  exact (e j).trans (hk j (by omega))
theorem Ev.bind {α β : Type} {g : Nat → Option α} {f : Nat → α → Option β} {v : α} {u : β} (H : Ev g v) (K : Ev (fun k => f k v) u) : Ev (fun k => (g k).bind (f k)) u := by
  obtain ⟨k0, hk⟩ := H
  obtain ⟨k1, hk1⟩ := K
  refine ⟨max k0 k1, fun k hle => ?_⟩
  simp only [hk k (by omega), Option.bind_some]
  exact hk1 k (by omega)
theorem Ev.get {α : Type} {g : Nat → Option α} {v : α} (H : Ev g v) : ∃ k, g k = some v := ⟨H.choose, H.choose_spec _ (Nat.le_refl _)⟩
theorem Ev.both {α β : Type} {g : Nat → Option α} {v : α} {g' : Nat → Option β} {v' : β} (H : Ev g v) (H' : Ev g' v') : ∃ k, g k = some v ∧ g' k = some v' := by
  obtain ⟨k0, hk⟩ := H
  obtain ⟨k1, hk1⟩ := H'
  exact ⟨max k0 k1, hk _ (by omega), hk1 _ (by omega)⟩

theorem w64 {n : Int} (h0 : -9223372036854775808 ≤ n) (h1 : n ≤ 9223372036854775807) : wrap64 n = n := by unfold wrap64; omega
theorem w32 {n : Int} (h0 : -2147483648 ≤ n) (h1 : n ≤ 2147483647) : wrap32 n = n := by unfold wrap32; omega

def adF : Nat → Int → Int → Int
  | 0, d, k => k + 36 * d / (d + 38)
  | f + 1, d, k => if d > 455 then adF f (d / 35) (k + 36) else k + 36 * d / (d + 38)
def adp (d p : Int) (first : Bool) : Int :=
  if d < 0 ∨ p < 1 then 0 else adF 10 ((if first then d / 700 else d / 2) + (if first then d / 700 else d / 2) / p) 0

theorem frac_bd (d : Int) (h : 0 ≤ d) : 0 ≤ 36 * d / (d + 38) ∧ 36 * d / (d + 38) ≤ 36 := by
  constructor
  · exact Int.ediv_nonneg (by omega) (by omega)
  · have : 36 * d / (d + 38) < 37 := Int.ediv_lt_of_lt_mul (by omega) (by omega)
    omega
theorem adF_bd : ∀ (f : Nat) (d k : Int), 0 ≤ d → 0 ≤ k → 0 ≤ adF f d k ∧ adF f d k ≤ k + 36 * f + 36
  | 0, d, k, h, hk => by
    have := frac_bd d h
    unfold adF
    omega
  | f + 1, d, k, h, hk => by
    have := frac_bd d h
    unfold adF
    split
    · have := adF_bd f (d / 35) (k + 36) (by omega) (by omega)
      omega
    · omega
theorem adp_bd (d p : Int) (first : Bool) : 0 ≤ adp d p first ∧ adp d p first ≤ 396 := by
  unfold adp
  split
  · omega
  · rename_i h
    have h1 : 0 ≤ (if first then d / 700 else d / 2) := by split <;> omega
    have h2 : 0 ≤ (if first then d / 700 else d / 2) / p := Int.ediv_nonneg h1 (by omega)
    have := adF_bd 10 _ 0 (Int.add_nonneg h1 h2) (Int.le_refl _)
    omega

theorem pA_l0 (f : Nat) : ∀ (d kk : Int), 0 ≤ d → d < 456 * 35 ^ f → d ≤ 4398046511104 → 0 ≤ kk → kk ≤ 1000000000 - 36 * f → Ev (fun k => puny_Adapt.l0 k d kk) (adF f d kk) := by
  induction f with
  | zero =>
    intro d kk h0 h1 h2 h3 h4
    refine Ev.of_eq1 (fun k => by rw [puny_Adapt.l0]) ?_
    have hfr := frac_bd d h0
    have e1 : wrap64 (d + 38) = d + 38 := w64 (by omega) (by omega)
    have e2 : wrap64 (36 * d) = 36 * d := w64 (by omega) (by omega)
    have e3 : Int.tdiv (36 * d) (d + 38) = 36 * d / (d + 38) := Int.tdiv_eq_ediv_of_nonneg (by omega)
    have e4 : wrap64 (36 * d / (d + 38)) = 36 * d / (d + 38) := w64 (by omega) (by omega)
    have e5 : wrap64 (kk + 36 * d / (d + 38)) = kk + 36 * d / (d + 38) := w64 (by omega) (by omega)
    simp only [e1, e2, e3, e4, e5]
    have hc : ¬ d > 455 := by simp at h1; omega
    simp only [if_neg hc, if_neg (show ¬ d + 38 = 0 by omega), adF]
    exact Ev.const _
  | succ f ih =>
    intro d kk h0 h1 h2 h3 h4
    refine Ev.of_eq1 (fun k => by rw [puny_Adapt.l0]) ?_
    have hfr := frac_bd d h0
    have e1 : wrap64 (d + 38) = d + 38 := w64 (by omega) (by omega)
    have e2 : wrap64 (36 * d) = 36 * d := w64 (by omega) (by omega)
    have e3 : Int.tdiv (36 * d) (d + 38) = 36 * d / (d + 38) := Int.tdiv_eq_ediv_of_nonneg (by omega)
    have e4 : wrap64 (36 * d / (d + 38)) = 36 * d / (d + 38) := w64 (by omega) (by omega)
    have e5 : wrap64 (kk + 36 * d / (d + 38)) = kk + 36 * d / (d + 38) := w64 (by omega) (by omega)
    have e6 : Int.tdiv d 35 = d / 35 := Int.tdiv_eq_ediv_of_nonneg h0
    simp only [e1, e2, e3, e4, e5, e6]
    by_cases hc : d > 455
    · simp only [if_pos hc, adF]
      rw [w64 (n := d / 35) (by omega) (by omega), w64 (n := kk + 36) (by omega) (by omega)]
      refine ih (d / 35) (kk + 36) (by omega) ?_ (by omega) (by omega) (by omega)
      refine Int.ediv_lt_of_lt_mul (by omega) ?_
      rw [Int.mul_assoc, ← Int.pow_succ]
      exact h1
    · simp only [if_neg hc, if_neg (show ¬ d + 38 = 0 by omega), adF]
      exact Ev.const _

theorem rA_l0 : ∀ (k : Nat) (d kk : Int), portcullisref05_Adapt.l0 k d kk = puny_Adapt.l0 k d kk
  | 0, d, kk => by rw [portcullisref05_Adapt.l0, puny_Adapt.l0]
  | k + 1, d, kk => by rw [portcullisref05_Adapt.l0, puny_Adapt.l0, rA_l0 k]

theorem pA_j1 (d p : Int) (h0 : 0 ≤ d) (h2 : d ≤ 1099511627776) (hp : 1 ≤ p) : Ev (fun k => puny_Adapt.j1 k d p) (adF 10 (d + d / p) 0) := by
  refine Ev.of_eq1 (fun k => by rw [puny_Adapt.j1]) ?_
  have hq0 : 0 ≤ d / p := Int.ediv_nonneg h0 (by omega)
  have hq1 : d / p ≤ d := Int.ediv_le_self _ h0
  rw [Int.tdiv_eq_ediv_of_nonneg h0, w64 (n := d / p) (by omega) (by omega), w64 (n := d + d / p) (by omega) (by omega)]
  simp only [if_neg (show ¬ p = 0 by omega)]
  exact pA_l0 10 _ 0 (by omega) (by omega) (by omega) (by omega) (by omega)
theorem rA_j1 (d p : Int) (h0 : 0 ≤ d) (h2 : d ≤ 1099511627776) (hp : 1 ≤ p) : Ev (fun k => portcullisref05_Adapt.j1 k d p) (adF 10 (d + d / p) 0) := by
  refine Ev.of_eq (h := fun k => puny_Adapt.j1 k d p) (fun k => ?_) (pA_j1 d p h0 h2 hp)
  cases k with
  | zero => rw [portcullisref05_Adapt.j1, puny_Adapt.j1]
  | succ k => rw [portcullisref05_Adapt.j1, puny_Adapt.j1]; simp only [rA_l0]

theorem pA (d p : Int) (first : Bool) (h2 : d ≤ 1099511627776) : Ev (fun k => puny_Adapt.f k d p first) (adp d p first) := by
  unfold puny_Adapt.f adp
  by_cases hd : d < 0
  · simp only [if_pos hd, if_pos (Or.inl hd : d < 0 ∨ p < 1)]
    refine Ev.of_eq1 (fun k => by rw [puny_Adapt.j0]) ?_
    simp only [if_true]
    exact Ev.const _
  · by_cases hp : p < 1
    · simp only [if_neg hd, if_pos (Or.inr hp : d < 0 ∨ p < 1), decide_eq_true hp]
      refine Ev.of_eq1 (fun k => by rw [puny_Adapt.j0]) ?_
      simp only [if_true]
      exact Ev.const _
    · simp only [if_neg hd, if_neg (show ¬ (d < 0 ∨ p < 1) by omega), decide_eq_false hp]
      refine Ev.of_eq1 (fun k => by rw [puny_Adapt.j0]) ?_
      have e1 : Int.tdiv d 2 = d / 2 := Int.tdiv_eq_ediv_of_nonneg (by omega)
      have e2 : wrap64 (d / 2) = d / 2 := w64 (by omega) (by omega)
      have e3 : Int.tdiv (d / 2) 350 = d / 2 / 350 := Int.tdiv_eq_ediv_of_nonneg (by omega)
      have e4 : d / 2 / 350 = d / 700 := by omega
      have e5 : wrap64 (d / 700) = d / 700 := w64 (by omega) (by omega)
      simp only [e1, e2, e3, e4, e5, Bool.false_eq_true, if_false]
      cases first with
      | true => simp only [if_true]; exact pA_j1 _ p (by omega) (by omega) (by omega)
      | false => simp only [Bool.false_eq_true, if_false]; exact pA_j1 _ p (by omega) (by omega) (by omega)
theorem rA (d p : Int) (first : Bool) (h2 : d ≤ 1099511627776) : Ev (fun k => portcullisref05_Adapt.f k d p first) (adp d p first) := by
  unfold portcullisref05_Adapt.f adp
  by_cases hd : d < 0
  · simp only [if_pos hd, if_pos (Or.inl hd : d < 0 ∨ p < 1)]
    refine Ev.of_eq1 (fun k => by rw [portcullisref05_Adapt.j0]) ?_
    simp only [if_true]
    exact Ev.const _
  · by_cases hp : p < 1
    · simp only [if_neg hd, if_pos (Or.inr hp : d < 0 ∨ p < 1), decide_eq_true hp]
      refine Ev.of_eq1 (fun k => by rw [portcullisref05_Adapt.j0]) ?_
      simp only [if_true]
      exact Ev.const _
    · simp only [if_neg hd, if_neg (show ¬ (d < 0 ∨ p < 1) by omega), decide_eq_false hp]
      refine Ev.of_eq1 (fun k => by rw [portcullisref05_Adapt.j0]) ?_
      have e1 : Int.tdiv d 2 = d / 2 := Int.tdiv_eq_ediv_of_nonneg (by omega)
      have e2 : wrap64 (d / 2) = d / 2 := w64 (by omega) (by omega)
      have e3 : Int.tdiv d 700 = d / 700 := Int.tdiv_eq_ediv_of_nonneg (by omega)
      have e5 : wrap64 (d / 700) = d / 700 := w64 (by omega) (by omega)
      simp only [e1, e2, e3, e5, Bool.false_eq_true, if_false]
      cases first with
      | true => simp only [if_true]; exact rA_j1 _ p (by omega) (by omega) (by omega)
      | false => simp only [Bool.false_eq_true, if_false]; exact rA_j1 _ p (by omega) (by omega) (by omega)
end Go.Proofs.Ytmhlagakimckjaa.Pure

/- What is proved: what the program's Decode and the document's Decode come to, as one plain function, for strings of at most 63 bytes. -/
namespace Go.Proofs.Ytmhlagakimckjaa.Pure
open Go.RowKit Go.Proofs.Ytmhlagakimckjaa.Q Go.Proofs.YtmhlagakimckjaaW.PrintWords Go.Proofs.YtmhlagakimckjaaW.PrintLast Go.Proofs.YtmhlagakimckjaaW.PrintMore
set_option linter.unusedVariables false
set_option linter.unusedSimpArgs false

theorem toList_bytes (s : ByteArray) : s.toList = ([] : List UInt8) ↔ bytesOf s = [] := by
  rw [ByteArray.toList_eq]
  simp [bytesOf]
theorem bytes_extract (s : ByteArray) (n : Nat) : bytesOf (s.extract n s.size) = (bytesOf s).drop n := by
  apply List.ext_getElem?
  intro i
  simp only [bytesOf, List.getElem?_map, List.getElem?_drop, ← List.map_drop]
  congr 1
  simp only [ByteArray.data_extract, Array.toList_extract, List.extract_eq_take_drop]
  rw [List.take_of_length_le (by rw [List.length_drop, Array.length_toList]; exact Nat.le_refl _), List.getElem?_drop]
theorem bytes_take (s : ByteArray) (n : Nat) : bytesOf (s.extract 0 n) = (bytesOf s).take n := by
  simp only [bytesOf, ← List.map_take]
  congr 1
  simp [ByteArray.data_extract]
theorem byte_range (s : ByteArray) : ∀ c ∈ bytesOf s, 0 ≤ c ∧ c ≤ 255 := by
  intro c hc
  simp only [bytesOf, List.mem_map] at hc
  obtain ⟨b, _, rfl⟩ := hc
  have := b.toNat_lt
  omega

/-- Is it a scalar (of at least 128)? -/
def sc (n : Int) : Bool := decide (n ≤ 1114111 ∧ ¬ (55296 ≤ n ∧ n ≤ 57343))

def decL : Nat → List Int → List Int → Int → Int → Int → List Int × Int
  | 0, _, out, _, _, _ => (out, 0)
  | f + 1, rest, out, n, i, bias =>
    if rest = [] then (out, 0) else
    if (num rest 0 i 1 bias).2 = 0 then ([], 8) else
    if sc (n + (num rest 0 i 1 bias).1 / ((out.length : Int) + 1)) then
      decL f (rest.drop (num rest 0 i 1 bias).2.toNat) (out.take ((num rest 0 i 1 bias).1 % ((out.length : Int) + 1)).toNat ++ (n + (num rest 0 i 1 bias).1 / ((out.length : Int) + 1)) :: out.drop ((num rest 0 i 1 bias).1 % ((out.length : Int) + 1)).toNat)
        (n + (num rest 0 i 1 bias).1 / ((out.length : Int) + 1)) ((num rest 0 i 1 bias).1 % ((out.length : Int) + 1) + 1) (adp ((num rest 0 i 1 bias).1 - i) ((out.length : Int) + 1) (i == 0))
    else ([], 8)

theorem num_spec : ∀ (l : List Int) (at_ i wt bias : Int), 0 ≤ at_ → 0 ≤ i → 1 ≤ wt → (num l at_ i wt bias = (0, 0)) ∨ (at_ + 1 ≤ (num l at_ i wt bias).2 ∧ (num l at_ i wt bias).2 ≤ at_ + l.length ∧ i ≤ (num l at_ i wt bias).1 ∧ (num l at_ i wt bias).1 ≤ 2147483647)
  | [], at_, i, wt, bias, h0, h1, h2 => .inl rfl
  | c :: l, at_, i, wt, bias, h0, h1, h2 => by
    have hd := dig_bd c
    have hm : 0 ≤ (dig c).1 * wt := Int.mul_nonneg hd.1 (by omega)
    have ht := thr_bd (36 * at_ + 36) bias
    unfold num
    split
    · exact .inl rfl
    split
    · exact .inl rfl
    split
    · refine .inr ⟨?_, ?_, ?_, ?_⟩
      · show at_ + 1 ≤ at_ + 1; omega
      · show at_ + 1 ≤ at_ + ((c :: l).length : Int); simp only [List.length_cons]; omega
      · show i ≤ i + (dig c).1 * wt; omega
      · show i + (dig c).1 * wt ≤ 2147483647; omega
    split
    · exact .inl rfl
    · have hw : 1 ≤ wt * (36 - thr (36 * at_ + 36) bias) := by
        have : 1 * 1 ≤ wt * (36 - thr (36 * at_ + 36) bias) := Int.mul_le_mul h2 (by omega) (by omega) (by omega)
        omega
      rcases num_spec l (at_ + 1) (i + (dig c).1 * wt) (wt * (36 - thr (36 * at_ + 36) bias)) bias (by omega) (by omega) hw with h | h
      · exact .inl h
      · refine .inr ?_
        simp only [List.length_cons]
        omega

theorem enc1 (r : Int) (h0 : -2147483648 ≤ r) (h1 : r ≤ 2147483647) : Ev (fun k => utf_Encode.f k [r]) (if Go.Lib.validRune r then (strOfNums (Go.Lib.encodeRuneZ r), 0) else ((⟨#[]⟩ : ByteArray), 2)) := by
  unfold utf_Encode.f
  refine Ev.of_eq1 (fun k => by rw [utf_Encode.l0]) ?_
  have e1 : rd [r] 0 = r := rfl
  simp only [e1, List.length_singleton, utf8_ValidRune.f, Option.bind_some, utf8_AppendRune.f]
  simp only [if_pos (show (0 : Int) < ((1 : Nat) : Int) by decide), if_pos (show (0 : Int) ≤ 0 by decide)]
  by_cases hv : Go.Lib.validRune r = true
  · simp only [if_pos hv]
    simp only [if_pos (show -2147483648 ≤ r ∧ r ≤ 2147483647 ∧ ([] : List Int).length ≤ 70368744177664 from ⟨h0, h1, by simp⟩)]
    simp only [Option.bind_some, List.nil_append]
    refine Ev.of_eq1 (fun k => by rw [utf_Encode.l0]) ?_
    simp only [if_neg (show ¬ wrap64 (0 + 1) < ((1 : Nat) : Int) by unfold wrap64; decide)]
    exact Ev.const _
  · simp only [if_neg hv]
    exact Ev.const _

theorem pD_l0 (f : Nat) : ∀ (x0 : ByteArray) (out : List Int) (n i bias : Int), x0.size ≤ f → out.length + x0.size ≤ 1000 → 128 ≤ n → n ≤ 1114111 → 0 ≤ i → i ≤ out.length → 0 ≤ bias → bias ≤ 1000 →
    Ev (fun k => puny_Decode.l0 k x0 out n i bias) (decL f (bytesOf x0) out n i bias) := by
  induction f with
  | zero =>
    intro x0 out n i bias hs ho hn0 hn1 hi0 hi1 hb0 hb1
    refine Ev.of_eq1 (fun k => by rw [puny_Decode.l0]) ?_
    have h0 : bytesOf x0 = [] := List.length_eq_zero_iff.1 (by rw [bytesOf_length]; omega)
    simp only [if_pos ((toList_bytes x0).2 h0), decL]
    exact Ev.const _
  | succ f ih =>
    intro x0 out n i bias hs ho hn0 hn1 hi0 hi1 hb0 hb1
    refine Ev.of_eq1 (fun k => by rw [puny_Decode.l0]) ?_
    by_cases h0 : bytesOf x0 = []
    · simp only [if_pos ((toList_bytes x0).2 h0), decL, if_pos h0]
      exact Ev.const _
    · simp only [if_neg (fun h => h0 ((toList_bytes x0).1 h)), decL, if_neg h0]
      have hf : puny_number.f x0 i bias = some (num (bytesOf x0) 0 i 1 bias) := by
        unfold puny_number.f
        rw [if_pos ⟨by omega, by omega, by omega, by omega, by omega⟩]
      simp only [hf, Option.bind_some]
      obtain ⟨j, took, hnum⟩ : ∃ j took, num (bytesOf x0) 0 i 1 bias = (j, took) := ⟨_, _, rfl⟩
      have hsp := num_spec (bytesOf x0) 0 i 1 bias (by omega) hi0 (by omega)
      rw [hnum] at hsp ⊢
      simp only [bytesOf_length] at hsp ⊢
      by_cases ht : took = 0
      · simp only [if_pos ht]
        exact Ev.const _
      · simp only [if_neg ht]
        rcases hsp with hsp | ⟨s0, s1, s2, s3⟩
        · exact absurd (congrArg Prod.snd hsp) ht
        simp only [if_pos (show 0 ≤ took by omega), if_pos (show took ≤ (x0.size : Int) by omega)]
        have e1 : wrap64 (j - i) = j - i := w64 (by omega) (by omega)
        have e2 : wrap64 ((out.length : Int) + 1) = (out.length : Int) + 1 := w64 (by omega) (by omega)
        have hq0 : 0 ≤ j / ((out.length : Int) + 1) := Int.ediv_nonneg (by omega) (by omega)
        have hq1 : j / ((out.length : Int) + 1) ≤ j := Int.ediv_le_self _ (by omega)
        have hm0 : 0 ≤ j % ((out.length : Int) + 1) := Int.emod_nonneg _ (by omega)
        have hm1 : j % ((out.length : Int) + 1) < (out.length : Int) + 1 := Int.emod_lt_of_pos _ (by omega)
        have e3 : Int.tdiv j ((out.length : Int) + 1) = j / ((out.length : Int) + 1) := Int.tdiv_eq_ediv_of_nonneg (by omega)
        have e4 : Int.tmod j ((out.length : Int) + 1) = j % ((out.length : Int) + 1) := Int.tmod_eq_emod_of_nonneg (by omega)
        have e5 : wrap64 (j / ((out.length : Int) + 1)) = j / ((out.length : Int) + 1) := w64 (by omega) (by omega)
        have e6 : wrap64 (n + j / ((out.length : Int) + 1)) = n + j / ((out.length : Int) + 1) := w64 (by omega) (by omega)
        have e7 : wrap64 (j % ((out.length : Int) + 1) + 1) = j % ((out.length : Int) + 1) + 1 := w64 (by omega) (by omega)
        simp only [e1, e2, e3, e4, e5, e6, e7]
        refine Ev.bind (pA _ _ _ (by omega)) ?_
        simp only [if_neg (show ¬ (out.length : Int) + 1 = 0 by omega)]
        obtain ⟨n', hn'⟩ : ∃ n', n + j / ((out.length : Int) + 1) = n' := ⟨_, rfl⟩
        obtain ⟨i', hi'⟩ : ∃ i', j % ((out.length : Int) + 1) = i' := ⟨_, rfl⟩
        simp only [hn', hi']
        have hmn : mn n' 1114112 = if 1114112 < n' then 1114112 else n' := rfl
        have hmn0 : 128 ≤ mn n' 1114112 ∧ mn n' 1114112 ≤ 1114112 := by rw [hmn]; split <;> omega
        rw [w32 (n := mn n' 1114112) (by omega) (by omega)]
        refine Ev.bind (enc1 _ (by omega) (by omega)) ?_
        by_cases hsc : sc n' = true
        · have hb : n' ≤ 1114111 ∧ ¬ (55296 ≤ n' ∧ n' ≤ 57343) := of_decide_eq_true hsc
          have hmm : mn n' 1114112 = n' := by rw [hmn, if_neg (by omega)]
          have hv : Go.Lib.validRune n' = true := by unfold Go.Lib.validRune; rw [decide_eq_true_eq]; omega
          rw [hmm]
          simp only [if_pos hv, if_pos hsc, if_true]
          rw [w32 (n := n') (by omega) (by omega)]
          have hins : slices_Insert_rune_rune.f out i' [n'] = some (out.take i'.toNat ++ n' :: out.drop i'.toNat) := by
            unfold slices_Insert_rune_rune.f
            rw [if_pos ⟨by omega, by omega, by omega⟩]
          simp only [hins, Option.bind_some]
          rw [← bytes_extract]
          have hsz : (x0.extract took.toNat x0.size).size = x0.size - took.toNat := by simp
          have hlen : (out.take i'.toNat ++ n' :: out.drop i'.toNat).length = out.length + 1 := by simp; omega
          have had := adp_bd (j - i) ((out.length : Int) + 1) (i == 0)
          exact ih _ _ _ _ _ (by omega) (by omega) (by omega) (by omega) (by omega) (by omega) (by omega) (by omega)
        · have hb : ¬ (n' ≤ 1114111 ∧ ¬ (55296 ≤ n' ∧ n' ≤ 57343)) := fun h => hsc (decide_eq_true h)
          have hv : ¬ Go.Lib.validRune (mn n' 1114112) = true := by
            unfold Go.Lib.validRune
            rw [decide_eq_true_eq, hmn]
            split <;> omega
          simp only [if_neg hv, if_neg hsc]
          simp only [if_neg (show ¬ (2 : Int) = 0 by decide)]
          exact Ev.const _
end Go.Proofs.Ytmhlagakimckjaa.Pure

/- What is proved: the program's Decode as a whole, and the document's Decode as a whole, are one plain function. -/
namespace Go.Proofs.Ytmhlagakimckjaa.Pure
open Go.RowKit Go.Proofs.Ytmhlagakimckjaa.Q Go.Proofs.YtmhlagakimckjaaW.PrintWords Go.Proofs.YtmhlagakimckjaaW.PrintLast Go.Proofs.YtmhlagakimckjaaW.PrintMore
set_option linter.unusedVariables false
set_option linter.unusedSimpArgs false

theorem byte_bt (s : ByteArray) (n : Nat) (h : n < s.size) : (bytesOf s).drop n = bt s n :: (bytesOf s).drop (n + 1) := by
  obtain ⟨c, _, _, hc, hd⟩ := byte_at s n h
  rw [hd, ← hc]
  congr 1
  exact bt_at s n h

def high (l : List Int) : Bool := l.any fun c => decide (128 ≤ c)
theorem high_cons (c : Int) (l : List Int) : high (c :: l) = (decide (128 ≤ c) || high l) := rfl

def lastH : List Int → Int → Int → Int
  | [], _, c => c
  | x :: l, p, c => lastH l (p + 1) (if x = 45 then p else c)

/-- What Decode comes to. -/
def decS (s : ByteArray) : List Int × Int :=
  if 63 < s.size then ([], 4) else
  if high (bytesOf s) then ([], 8) else
  if 0 < lastH (bytesOf s) 0 0 then decL 64 ((bytesOf s).drop (lastH (bytesOf s) 0 0 + 1).toNat) ((bytesOf s).take (lastH (bytesOf s) 0 0).toNat) 128 0 72
  else decL 64 (bytesOf s) [] 128 0 72

/-! ### the program -/
theorem idx_high (s : ByteArray) : ∀ (f pos : Nat), s.size ≤ pos + f → decide (0 ≤ Go.Lib.idxFuncFrom (fun r => decide (128 ≤ r)) true s f pos) = high ((bytesOf s).drop pos)
  | 0, pos, h => by
    rw [List.drop_of_length_le (by rw [bytesOf_length]; omega)]
    rfl
  | f + 1, pos, h => by
    unfold Go.Lib.idxFuncFrom
    by_cases hp : pos < s.size
    · rw [if_pos hp, byte_bt s pos hp, high_cons]
      have hb : ((s[pos]'hp).toNat : Int) = bt s pos := bt_at s pos hp
      by_cases hc : (s[pos]'hp).toNat < 128
      · rw [decode_ascii s pos hp hc]
        simp only [show (decide (128 ≤ (s[pos]'hp).toNat) = true) = False by simp; omega, if_false]
        rw [idx_high s f (pos + 1) (by omega), show decide (128 ≤ bt s (pos : Int)) = false by rw [← hb]; simp; omega]
        rfl
      · have hd := decode_high s pos hp (by omega)
        simp only [decide_eq_true hd.1, if_true]
        rw [show decide (128 ≤ bt s (pos : Int)) = true by rw [← hb]; simp; omega]
        simp
    · rw [if_neg hp, List.drop_of_length_le (by rw [bytesOf_length]; omega)]
      rfl

theorem runes_ascii (s : ByteArray) : ∀ (b pos : Nat), s.size ≤ pos + b → high ((bytesOf s).drop pos) = false → runesAt s b pos = (bytesOf s).drop pos
  | 0, pos, h, hh => by
    rw [List.drop_of_length_le (by rw [bytesOf_length]; omega)]
    rfl
  | b + 1, pos, h, hh => by
    unfold runesAt
    by_cases hp : pos < s.size
    · rw [byte_bt s pos hp, high_cons] at hh
      have hb : ((s[pos]'hp).toNat : Int) = bt s pos := bt_at s pos hp
      rw [Bool.or_eq_false_iff] at hh
      have hc : (s[pos]'hp).toNat < 128 := by have := of_decide_eq_false hh.1; omega
      rw [if_pos hp, decode_ascii s pos hp hc, byte_bt s pos hp]
      simp only
      rw [runes_ascii s b (pos + 1) (by omega) hh.2, ← hb]
      rfl
    · rw [if_neg hp, List.drop_of_length_le (by rw [bytesOf_length]; omega)]

theorem lastH_none : ∀ (l : List Int) (p c : Int), (∀ x ∈ l, x ≠ 45) → lastH l p c = c
  | [], p, c, h => rfl
  | x :: l, p, c, h => by
    unfold lastH
    rw [if_neg (h x (by simp)), lastH_none l _ _ (fun y hy => h y (by simp [hy]))]
theorem lastH_at : ∀ (l : List Int) (p c : Int) (i : Nat), l[i]? = some 45 → (∀ j, i < j → ∀ x, l[j]? = some x → x ≠ 45) → lastH l p c = p + i
  | [], p, c, i, h, hn => by simp at h
  | x :: l, p, c, 0, h, hn => by
    simp at h
    subst h
    unfold lastH
    rw [lastH_none l _ _ (fun y hy => by
      obtain ⟨j, hj⟩ := List.mem_iff_getElem?.1 hy
      exact hn (j + 1) (by omega) y (by simpa using hj))]
    simp
  | x :: l, p, c, i + 1, h, hn => by
    unfold lastH
    rw [lastH_at l (p + 1) _ i (by simpa using h) (fun j hj y hy => hn (j + 1) (by omega) y (by simpa using hy))]
    omega

theorem bytes_get (s : ByteArray) (j : Nat) (h : j < s.size) : (bytesOf s)[j]? = some (((s.data[j]!).toNat : Int)) := by
  have hj : j < s.data.size := h
  simp only [bytesOf, List.getElem?_map, Array.getElem?_toList, Array.getElem?_eq_getElem hj, Option.map_some]
  rw [getElem!_pos s.data j hj]

theorem last_eq (s : ByteArray) : (Lib.lastIndexByte s 45 ≤ 0 ∧ lastH (bytesOf s) 0 0 = 0) ∨ (0 < Lib.lastIndexByte s 45 ∧ lastH (bytesOf s) 0 0 = Lib.lastIndexByte s 45 ∧ Lib.lastIndexByte s 45 < s.size) := by
  rcases Lib.lastIndexByte_spec s 45 with ⟨e, hn⟩ | ⟨i, hi, e, hc, hn⟩
  · refine .inl ⟨by omega, lastH_none _ _ _ fun x hx => ?_⟩
    obtain ⟨j, hj⟩ := List.mem_iff_getElem?.1 hx
    have hjs : j < s.size := by
      have := (List.getElem?_eq_some_iff.1 hj).1
      rwa [bytesOf_length] at this
    rw [bytes_get s j hjs] at hj
    have := hn j hjs
    intro h45
    subst h45
    exact this (Option.some.inj hj)
  · have hl := lastH_at (bytesOf s) 0 0 i (by rw [bytes_get s i hi, hc]) (fun j hj x hx => by
      have hjs : j < s.size := by
        have := (List.getElem?_eq_some_iff.1 hx).1
        rwa [bytesOf_length] at this
      rw [bytes_get s j hjs] at hx
      have := hn j hj hjs
      intro h45
      subst h45
      exact this (Option.some.inj hx))
    rw [e, hl]
    omega

theorem high_take (l : List Int) (n : Nat) (h : high l = false) : high (l.take n) = false := by
  simp only [high, List.any_eq_false] at h ⊢
  exact fun x hx => h x (List.mem_of_mem_take hx)

theorem pD (s : ByteArray) : Ev (fun k => puny_Decode.f k s) (decS s) := by
  unfold puny_Decode.f decS
  by_cases h63 : 63 < s.size
  · simp only [if_pos h63, if_pos (show (s.size : Int) > 63 by omega)]
    exact Ev.const _
  · simp only [if_neg h63, if_neg (show ¬ (s.size : Int) > 63 by omega), strings_ContainsFunc.f, Option.bind_some]
    have hidx : decide (0 ≤ Go.Lib.idxFunc (fun r => decide (128 ≤ r)) true s) = high (bytesOf s) := idx_high s s.size 0 (by omega)
    rw [hidx]
    by_cases hh : high (bytesOf s) = true
    · simp only [if_pos hh]
      exact Ev.const _
    · simp only [if_neg hh]
      have hlb : strings_LastIndexByte.f s 45 = some (Lib.lastIndexByte s 45) := by unfold strings_LastIndexByte.f; rw [if_pos (by omega)]
      simp only [hlb, Option.bind_some]
      rcases last_eq s with ⟨h1, h2⟩ | ⟨h1, h2, h3⟩
      · simp only [if_neg (show ¬ Lib.lastIndexByte s 45 > 0 by omega), h2, if_neg (show ¬ (0 : Int) < 0 by omega)]
        refine Ev.of_eq1 (fun k => by rw [puny_Decode.j0]) ?_
        exact pD_l0 64 s [] 128 0 72 (by omega) (by simp; omega) (by omega) (by omega) (by omega) (by simp) (by omega) (by omega)
      · rw [h2]
        obtain ⟨c, hc⟩ : ∃ c : Nat, Lib.lastIndexByte s 45 = (c : Int) := ⟨(Lib.lastIndexByte s 45).toNat, by omega⟩
        rw [hc] at h1 h3 ⊢
        have hsz : (s.extract 0 c).size = c := by simp; omega
        have hcs : c < s.size := by omega
        have e1 : wrap64 ((c : Int) + 1) = (c : Int) + 1 := w64 (by omega) (by omega)
        simp only [e1, if_pos h1, if_pos (show (c : Int) > 0 from h1), if_pos (show 0 ≤ (c : Int) by omega), if_pos (show (c : Int) ≤ (s.size : Int) by omega), Int.toNat_natCast, hsz, if_pos (show c < 35184372088832 by omega), if_pos (show 0 ≤ (c : Int) + 1 by omega), if_pos (show (c : Int) + 1 ≤ (s.size : Int) by omega)]
        refine Ev.of_eq1 (fun k => by rw [puny_Decode.j0]) ?_
        have hr : runesOf (s.extract 0 c) = (bytesOf s).take c := by
          have := runes_ascii (s.extract 0 c) (s.extract 0 c).size 0 (by omega) (by rw [List.drop_zero, bytes_take]; exact high_take _ _ (by simpa using hh))
          rw [List.drop_zero, bytes_take] at this
          exact this
        rw [hr, show ((c : Int) + 1).toNat = c + 1 by omega, ← bytes_extract]
        have hl1 : (s.extract (c + 1) s.size).size = s.size - (c + 1) := by simp
        have hl2 : ((bytesOf s).take c).length = c := by rw [List.length_take, bytesOf_length]; omega
        exact pD_l0 64 _ _ 128 0 72 (by omega) (by omega) (by omega) (by omega) (by omega) (by omega) (by omega) (by omega)
end Go.Proofs.Ytmhlagakimckjaa.Pure

/- What is proved: the document's Decode is the plain function, too. -/
namespace Go.Proofs.Ytmhlagakimckjaa.Pure
open Go.RowKit Go.Proofs.Ytmhlagakimckjaa.Q Go.Proofs.YtmhlagakimckjaaW.PrintWords Go.Proofs.YtmhlagakimckjaaW.PrintLast Go.Proofs.YtmhlagakimckjaaW.PrintMore
set_option linter.unusedVariables false
set_option linter.unusedSimpArgs false

theorem rDig (c : Int) (h0 : 0 ≤ c) (h1 : c ≤ 255) : Ev (fun k => portcullisref05_digit.f k c) (if (dig c).2 = true then (dig c).1 else -1) := by
  unfold portcullisref05_digit.f dig
  by_cases a : 97 ≤ c ∧ c ≤ 122
  · simp only [if_pos a, if_pos (show c ≥ 97 from a.1), decide_eq_true a.2]
    refine Ev.of_eq1 (fun k => by rw [portcullisref05_digit.j0]) ?_
    simp only [if_true]
    rw [show (c - 97) % 256 = c - 97 by omega]
    exact Ev.const _
  · simp only [if_neg a]
    refine Ev.of_eq (h := fun k => portcullisref05_digit.j0 k c false) (fun k => ?_) ?_
    · by_cases h : c ≥ 97
      · rw [if_pos h, decide_eq_false (by omega)]
      · rw [if_neg h]
    refine Ev.of_eq1 (fun k => by rw [portcullisref05_digit.j0]) ?_
    simp only [Bool.false_eq_true, if_false]
    by_cases b : 65 ≤ c ∧ c ≤ 90
    · simp only [if_pos b, if_pos (show c ≥ 65 from b.1), decide_eq_true b.2]
      refine Ev.of_eq1 (fun k => by rw [portcullisref05_digit.j1]) ?_
      simp only [if_true]
      rw [show (c - 65) % 256 = c - 65 by omega]
      exact Ev.const _
    · simp only [if_neg b]
      refine Ev.of_eq (h := fun k => portcullisref05_digit.j1 k c false) (fun k => ?_) ?_
      · by_cases h : c ≥ 65
        · rw [if_pos h, decide_eq_false (by omega)]
        · rw [if_neg h]
      refine Ev.of_eq1 (fun k => by rw [portcullisref05_digit.j1]) ?_
      simp only [Bool.false_eq_true, if_false]
      by_cases d : 48 ≤ c ∧ c ≤ 57
      · simp only [if_pos d, if_pos (show c ≥ 48 from d.1), if_pos d.2, if_true]
        rw [show (c - 48) % 256 = c - 48 by omega]
        exact Ev.const _
      · simp only [if_neg d, Bool.false_eq_true, if_false]
        by_cases e : c ≥ 48
        · simp only [if_pos e, if_neg (show ¬ c ≤ 57 by omega)]
          exact Ev.const _
        · simp only [if_neg e]
          exact Ev.const _

theorem rThr (k bias : Int) (b0 : 0 ≤ bias) (b1 : bias ≤ 1000) (k0 : 0 ≤ k) (k1 : k ≤ 1000000) : portcullisref05_threshold.f k bias = some (thr k bias) := by
  unfold portcullisref05_threshold.f thr
  rw [w64 (n := bias + 26) (by omega) (by omega), w64 (n := k - bias) (by omega) (by omega)]
  by_cases a : k ≤ bias
  · rw [if_pos a]; congr 1; omega
  · rw [if_neg a]
    by_cases b : k ≥ bias + 26
    · rw [if_pos b]; congr 1; omega
    · rw [if_neg b]; congr 1; omega

def contR (k : Nat) (x0 : ByteArray) (out : List Int) (p1 n J bias old : Int) : Option (List Int × Int) := ((portcullisref05_Adapt.f k (wrap64 (J - old)) (wrap64 ((out.length : Int) + 1)) (old == 0)).bind fun t204 => (if (wrap64 ((out.length : Int) + 1)) = 0 then (none) else (if (wrap64 (n + (wrap64 (Int.tdiv J (wrap64 ((out.length : Int) + 1)))))) > 1114111 then (some (([] : List Int), 8)) else ((portcullisref01_Scalar.f (wrap32 (wrap64 (n + (wrap64 (Int.tdiv J (wrap64 ((out.length : Int) + 1)))))))).bind fun t205 => (if t205 = true then (if 0 ≤ (Int.tmod J (wrap64 ((out.length : Int) + 1))) then (if (Int.tmod J (wrap64 ((out.length : Int) + 1))) ≤ (out.length : Int) then ((some (out.take ((Int.tmod J (wrap64 ((out.length : Int) + 1))) : Int).toNat : List Int)).bind fun y206 => (if ([] : List Int).length + y206.length < 35184372088832 then ((some (([] : List Int) ++ y206 : List Int)).bind fun y210 => (if y210.length < 35184372088832 then ((some (y210 ++ [wrap32 (wrap64 (n + (wrap64 (Int.tdiv J (wrap64 ((out.length : Int) + 1))))))] : List Int)).bind fun y213 => ((some (out.drop ((Int.tmod J (wrap64 ((out.length : Int) + 1))) : Int).toNat : List Int)).bind fun y216 => (if y213.length + y216.length < 35184372088832 then (portcullisref05_Decode.l2 k x0 (y213 ++ y216) p1 (wrap64 (n + (wrap64 (Int.tdiv J (wrap64 ((out.length : Int) + 1)))))) (wrap64 ((Int.tmod J (wrap64 ((out.length : Int) + 1))) + 1)) t204) else (none)))) else (none))) else (none))) else (none)) else (none)) else (some (([] : List Int), 8)))))))

theorem rD_l3 (x0 : ByteArray) (out : List Int) (n bias old : Int) (hs : x0.size ≤ 1000) (b0 : 0 ≤ bias) (b1 : bias ≤ 1000) (res : Int → Int → List Int × Int) :
    ∀ (l : List Int) (p : Nat) (at_ i wt : Int), p + l.length = x0.size → l = (bytesOf x0).drop p → 0 ≤ at_ → at_ ≤ p → 0 ≤ i → i ≤ 2147483647 → 1 ≤ wt → wt ≤ 2147483647 →
    (∀ J took, at_ + 1 ≤ took → took ≤ at_ + l.length → i ≤ J → J ≤ 2147483647 → Ev (fun k => contR k x0 out (p + (took - at_)) n J bias old) (res J took)) →
    Ev (fun k => portcullisref05_Decode.l3 k x0 out p n i bias old wt (36 * at_ + 36)) (if (num l at_ i wt bias).2 = 0 then ([], 8) else res (num l at_ i wt bias).1 (num l at_ i wt bias).2)
  | [], p, at_, i, wt, hl, hd, a0, a1, i0, i1, w0, w1, HC => by
    refine Ev.of_eq1 (fun k => by rw [portcullisref05_Decode.l3]) ?_
    simp only [List.length_nil] at hl
    simp only [if_pos (show (p : Int) = (x0.size : Int) by omega), num, if_true]
    exact Ev.const _
  | c :: l, p, at_, i, wt, hl, hd, a0, a1, i0, i1, w0, w1, HC => by
    refine Ev.of_eq1 (fun k => by rw [portcullisref05_Decode.l3]) ?_
    simp only [List.length_cons] at hl HC
    have hp : p < x0.size := by omega
    rw [byte_bt x0 p hp] at hd
    injection hd with hc hd
    have hr := bt_range x0 p
    rw [← hc] at hr
    have hdg := dig_bd c
    have hm0 : 0 ≤ (dig c).1 * wt := Int.mul_nonneg hdg.1 (by omega)
    have hm1 : (dig c).1 * wt ≤ 35 * 2147483647 := Int.le_trans (Int.mul_le_mul_of_nonneg_right hdg.2 (by omega)) (by omega)
    have ht := thr_bd (36 * at_ + 36) bias
    simp only [if_neg (show ¬ (p : Int) = (x0.size : Int) by omega), if_pos (show 0 ≤ (p : Int) by omega), if_pos (show (p : Int) < (x0.size : Int) by omega), ← hc]
    refine Ev.bind (rDig c hr.1 hr.2) ?_
    unfold num
    by_cases hdi : (dig c).2 = false
    · simp only [if_pos hdi, hdi, Bool.false_eq_true, if_false, if_true]
      simp only [if_pos (show (-1 : Int) < 0 by decide)]
      exact Ev.const _
    · simp only [if_neg hdi]
      simp only [show (dig c).2 = true by simpa using hdi, if_true, if_neg (show ¬ (dig c).1 < 0 by omega)]
      rw [w64 (n := (dig c).1 * wt) (by omega) (by omega), w64 (n := i + (dig c).1 * wt) (by omega) (by omega)]
      by_cases hbig : 2147483647 < i + (dig c).1 * wt
      · simp only [if_pos hbig, if_pos (show i + (dig c).1 * wt > 2147483647 from hbig), if_true]
        exact Ev.const _
      · simp only [if_neg hbig, if_neg (show ¬ i + (dig c).1 * wt > 2147483647 from hbig)]
        rw [rThr _ _ b0 b1 (by omega) (by omega)]
        refine Ev.bind (g := fun _ => some (thr (36 * at_ + 36) bias)) (Ev.const _) ?_
        by_cases hlt : (dig c).1 < thr (36 * at_ + 36) bias
        · simp only [if_pos hlt]
          rw [if_neg (show ¬ at_ + 1 = 0 by omega)]
          have hE := HC (i + (dig c).1 * wt) (at_ + 1) (by omega) (by omega) (by omega) (by omega)
          rw [show (p : Int) + (at_ + 1 - at_) = (p : Int) + 1 by omega] at hE
          rw [w64 (n := (p : Int) + 1) (by omega) (by omega)]
          exact hE
        · simp only [if_neg hlt]
          have hp0 : 1 * 1 ≤ wt * (36 - thr (36 * at_ + 36) bias) := Int.mul_le_mul w0 (by omega) (by omega) (by omega)
          have hp1 : wt * (36 - thr (36 * at_ + 36) bias) ≤ 2147483647 * 35 := Int.mul_le_mul w1 (by omega) (by omega) (by omega)
          rw [w64 (n := 36 - thr (36 * at_ + 36) bias) (by omega) (by omega), w64 (n := wt * (36 - thr (36 * at_ + 36) bias)) (by omega) (by omega)]
          by_cases hw : 2147483647 < wt * (36 - thr (36 * at_ + 36) bias)
          · simp only [if_pos hw, if_pos (show wt * (36 - thr (36 * at_ + 36) bias) > 2147483647 from hw), if_true]
            exact Ev.const _
          · simp only [if_neg hw, if_neg (show ¬ wt * (36 - thr (36 * at_ + 36) bias) > 2147483647 from hw)]
            rw [w64 (n := (p : Int) + 1) (by omega) (by omega), w64 (n := 36 * at_ + 36 + 36) (by omega) (by omega)]
            have hE := rD_l3 x0 out n bias old hs b0 b1 res l (p + 1) (at_ + 1) (i + (dig c).1 * wt) (wt * (36 - thr (36 * at_ + 36) bias)) (by omega) hd (by omega) (by omega) (by omega) (by omega) (by omega) (by omega) (fun J took t0 t1 j0 j1 => by
              have h := HC J took (by omega) (by omega) (by omega) j1
              rw [show ((p + 1 : Nat) : Int) + (took - (at_ + 1)) = (p : Int) + (took - at_) by omega]
              exact h)
            rw [show ((p + 1 : Nat) : Int) = (p : Int) + 1 by omega, show 36 * (at_ + 1) + 36 = 36 * at_ + 36 + 36 by omega] at hE
            exact hE

theorem rSc (n : Int) (h : 0 ≤ n) (h1 : n ≤ 1114111) : portcullisref01_Scalar.f n = some (sc n) := by
  unfold portcullisref01_Scalar.f sc
  simp only [if_pos (show n ≥ 0 from h), if_pos h1]
  by_cases a : n < 55296
  · rw [if_pos a]; congr 1; symm; rw [decide_eq_true_eq]; omega
  · rw [if_neg a]; congr 1; rw [decide_eq_decide]; omega

def resR (F : List Int → Int → Int → Int → List Int × Int) (out : List Int) (n i J : Int) : List Int × Int :=
  if sc (n + J / ((out.length : Int) + 1)) then
    F (out.take (J % ((out.length : Int) + 1)).toNat ++ (n + J / ((out.length : Int) + 1)) :: out.drop (J % ((out.length : Int) + 1)).toNat) (n + J / ((out.length : Int) + 1)) (J % ((out.length : Int) + 1) + 1) (adp (J - i) ((out.length : Int) + 1) (i == 0))
  else ([], 8)

theorem contR_ev (x0 : ByteArray) (out : List Int) (p1 n J bias i : Int) (F : List Int → Int → Int → Int → List Int × Int) (ho : out.length ≤ 1000) (hn0 : 128 ≤ n) (hn1 : n ≤ 1114111) (hi0 : 0 ≤ i) (hi1 : i ≤ out.length) (j0 : i ≤ J) (j1 : J ≤ 2147483647)
    (H : ∀ n' i' b', b' = adp (J - i) ((out.length : Int) + 1) (i == 0) → n' = n + J / ((out.length : Int) + 1) → i' = J % ((out.length : Int) + 1) → 128 ≤ n' → n' ≤ 1114111 → 0 ≤ i' → i' ≤ out.length →
      Ev (fun k => portcullisref05_Decode.l2 k x0 (out.take i'.toNat ++ n' :: out.drop i'.toNat) p1 n' (i' + 1) b') (F (out.take i'.toNat ++ n' :: out.drop i'.toNat) n' (i' + 1) b')) :
    Ev (fun k => contR k x0 out p1 n J bias i) (resR F out n i J) := by
  unfold contR resR
  have e1 : wrap64 (J - i) = J - i := w64 (by omega) (by omega)
  have e2 : wrap64 ((out.length : Int) + 1) = (out.length : Int) + 1 := w64 (by omega) (by omega)
  have hq0 : 0 ≤ J / ((out.length : Int) + 1) := Int.ediv_nonneg (by omega) (by omega)
  have hq1 : J / ((out.length : Int) + 1) ≤ J := Int.ediv_le_self _ (by omega)
  have hm0 : 0 ≤ J % ((out.length : Int) + 1) := Int.emod_nonneg _ (by omega)
  have hm1 : J % ((out.length : Int) + 1) < (out.length : Int) + 1 := Int.emod_lt_of_pos _ (by omega)
  have e3 : Int.tdiv J ((out.length : Int) + 1) = J / ((out.length : Int) + 1) := Int.tdiv_eq_ediv_of_nonneg (by omega)
  have e4 : Int.tmod J ((out.length : Int) + 1) = J % ((out.length : Int) + 1) := Int.tmod_eq_emod_of_nonneg (by omega)
  have e5 : wrap64 (J / ((out.length : Int) + 1)) = J / ((out.length : Int) + 1) := w64 (by omega) (by omega)
  have e6 : wrap64 (n + J / ((out.length : Int) + 1)) = n + J / ((out.length : Int) + 1) := w64 (by omega) (by omega)
  have e7 : wrap64 (J % ((out.length : Int) + 1) + 1) = J % ((out.length : Int) + 1) + 1 := w64 (by omega) (by omega)
  simp only [e1, e2, e3, e4, e5, e6, e7]
  refine Ev.bind (rA _ _ _ (by omega)) ?_
  simp only [if_neg (show ¬ (out.length : Int) + 1 = 0 by omega)]
  obtain ⟨n', hn'⟩ : ∃ n', n + J / ((out.length : Int) + 1) = n' := ⟨_, rfl⟩
  obtain ⟨i', hi'⟩ : ∃ i', J % ((out.length : Int) + 1) = i' := ⟨_, rfl⟩
  simp only [hn', hi']
  by_cases hbig : n' > 1114111
  · simp only [if_pos hbig]
    rw [if_neg (show ¬ sc n' = true by unfold sc; rw [decide_eq_true_eq]; omega)]
    exact Ev.const _
  · simp only [if_neg hbig]
    rw [w32 (n := n') (by omega) (by omega), rSc n' (by omega) (by omega)]
    simp only [Option.bind_some]
    by_cases hsc : sc n' = true
    · simp only [if_pos hsc, if_pos (show 0 ≤ i' by omega), if_pos (show i' ≤ (out.length : Int) by omega)]
      have hl1 : (out.take i'.toNat).length = i'.toNat := by rw [List.length_take]; omega
      have hl2 : (out.drop i'.toNat).length = out.length - i'.toNat := by rw [List.length_drop]
      simp only [List.nil_append, List.length_nil, List.length_append, List.length_cons, hl1, hl2, if_pos (show 0 + i'.toNat < 35184372088832 by omega), if_pos (show i'.toNat < 35184372088832 by omega), if_pos (show i'.toNat + (0 + 1) + (out.length - i'.toNat) < 35184372088832 by omega)]
      rw [List.append_assoc, List.singleton_append]
      exact H n' i' _ rfl hn'.symm hi'.symm (by omega) (by omega) (by omega) (by omega)
    · simp only [if_neg hsc]
      exact Ev.const _

theorem rD_l2 (x0 : ByteArray) (hs : x0.size ≤ 100) (f : Nat) : ∀ (p : Nat) (out : List Int) (n i bias : Int), x0.size ≤ p + f → p ≤ x0.size → out.length + (x0.size - p) ≤ 1000 → 128 ≤ n → n ≤ 1114111 → 0 ≤ i → i ≤ out.length → 0 ≤ bias → bias ≤ 1000 →
    Ev (fun k => portcullisref05_Decode.l2 k x0 out p n i bias) (decL f ((bytesOf x0).drop p) out n i bias) := by
  induction f with
  | zero =>
    intro p out n i bias hp hp2 ho hn0 hn1 hi0 hi1 hb0 hb1
    refine Ev.of_eq1 (fun k => by rw [portcullisref05_Decode.l2]) ?_
    simp only [if_neg (show ¬ (p : Int) < (x0.size : Int) by omega), decL]
    exact Ev.const _
  | succ f ih =>
    intro p out n i bias hp hp2 ho hn0 hn1 hi0 hi1 hb0 hb1
    refine Ev.of_eq1 (fun k => by rw [portcullisref05_Decode.l2]) ?_
    have hdl : ((bytesOf x0).drop p).length = x0.size - p := by rw [List.length_drop, bytesOf_length]
    unfold decL
    by_cases h0 : p < x0.size
    · have hne : ¬ (bytesOf x0).drop p = [] := by
        intro h
        rw [h] at hdl
        simp at hdl
        omega
      simp only [if_pos (show (p : Int) < (x0.size : Int) by omega), if_neg hne]
      have hE := rD_l3 x0 out n bias i (by omega) hb0 hb1 (fun J took => resR (fun o n' i' b' => decL f (((bytesOf x0).drop p).drop took.toNat) o n' i' b') out n i J) ((bytesOf x0).drop p) p 0 i 1 (by omega) rfl (by omega) (by omega) hi0 (by omega) (by omega) (by omega) (fun J took t0 t1 j0 j1 => by
        rw [hdl] at t1
        refine contR_ev x0 out _ n J bias i _ (by omega) hn0 hn1 hi0 hi1 j0 j1 (fun n' i' b' hb' hn' hi' q0 q1 q2 q3 => ?_)
        rw [List.drop_drop]
        have hlen : (out.take i'.toNat ++ n' :: out.drop i'.toNat).length = out.length + 1 := by simp; omega
        have had := adp_bd (J - i) ((out.length : Int) + 1) (i == 0)
        rw [← hb'] at had
        have hE := ih (p + took.toNat) (out.take i'.toNat ++ n' :: out.drop i'.toNat) n' (i' + 1) b' (by omega) (by omega) (by omega) (by omega) (by omega) (by omega) (by omega) (by omega) (by omega)
        rw [show ((p + took.toNat : Nat) : Int) = (p : Int) + (took - 0) by omega] at hE
        exact hE)
      rw [show (36 : Int) * 0 + 36 = 36 from rfl] at hE
      exact hE
    · have hne : (bytesOf x0).drop p = [] := List.length_eq_zero_iff.1 (by omega)
      simp only [if_neg (show ¬ (p : Int) < (x0.size : Int) by omega), if_pos hne]
      exact Ev.const _

theorem rD_l1 (x0 : ByteArray) (hs : x0.size ≤ 100) (c : Nat) (hc : c ≤ x0.size) (hh : high (bytesOf x0) = false) (v : List Int × Int)
    (H : Ev (fun k => if (c : Int) > 0 then (portcullisref05_Decode.j2 k x0 ((bytesOf x0).take c) (wrap64 ((c : Int) + 1))) else (portcullisref05_Decode.j2 k x0 ((bytesOf x0).take c) c)) v) :
    ∀ (m p : Nat), p + m = c → Ev (fun k => portcullisref05_Decode.l1 k x0 c ((bytesOf x0).take p) p) v
  | 0, p, hp => by
    refine Ev.of_eq1 (fun k => by rw [portcullisref05_Decode.l1]) ?_
    have : p = c := by omega
    subst this
    simp only [if_neg (show ¬ (p : Int) < (p : Int) by omega)]
    exact H
  | m + 1, p, hp => by
    refine Ev.of_eq1 (fun k => by rw [portcullisref05_Decode.l1]) ?_
    have hl : ((bytesOf x0).take p).length = p := by rw [List.length_take, bytesOf_length]; omega
    simp only [if_pos (show (p : Int) < (c : Int) by omega), if_pos (show 0 ≤ (p : Int) by omega), if_pos (show (p : Int) < (x0.size : Int) by omega), hl, if_pos (show p < 35184372088832 by omega)]
    have hr := bt_range x0 p
    rw [w32 (n := bt x0 p) (by omega) (by omega), w64 (n := (p : Int) + 1) (by omega) (by omega)]
    have ht : (bytesOf x0).take p ++ [bt x0 p] = (bytesOf x0).take (p + 1) := by
      rw [List.take_add_one]
      congr 1
      have := byte_bt x0 p (by omega)
      have h2 : (bytesOf x0)[p]? = some (bt x0 p) := by rw [← List.head?_drop, this]; rfl
      rw [h2]; rfl
    rw [ht]
    exact rD_l1 x0 hs c hc hh v H m (p + 1) (by omega)

theorem rD_l0 (x0 : ByteArray) (hs : x0.size ≤ 100) : ∀ (m p : Nat) (c : Int), p + m = x0.size → ∀ v, (high ((bytesOf x0).drop p) = true → v = ([], 8)) → (high ((bytesOf x0).drop p) = false → Ev (fun k => portcullisref05_Decode.l1 k x0 (lastH ((bytesOf x0).drop p) p c) [] 0) v) →
    Ev (fun k => portcullisref05_Decode.l0 k x0 c p) v
  | 0, p, c, hp, v, h1, h2 => by
    refine Ev.of_eq1 (fun k => by rw [portcullisref05_Decode.l0]) ?_
    simp only [if_neg (show ¬ (p : Int) < (x0.size : Int) by omega)]
    rw [List.drop_of_length_le (by rw [bytesOf_length]; omega)] at h2
    exact h2 rfl
  | m + 1, p, c, hp, v, h1, h2 => by
    refine Ev.of_eq1 (fun k => by rw [portcullisref05_Decode.l0]) ?_
    simp only [if_pos (show (p : Int) < (x0.size : Int) by omega), if_pos (show 0 ≤ (p : Int) by omega)]
    rw [byte_bt x0 p (by omega), high_cons] at h1 h2
    by_cases hb : bt x0 p ≥ 128
    · simp only [if_pos hb]
      rw [h1 (by rw [decide_eq_true (show 128 ≤ bt x0 p from hb)]; rfl)]
      exact Ev.const _
    · simp only [if_neg hb]
      rw [decide_eq_false (show ¬ 128 ≤ bt x0 p from hb), Bool.false_or] at h1 h2
      unfold lastH at h2
      rw [w64 (n := (p : Int) + 1) (by omega) (by omega)]
      have ih := rD_l0 x0 hs m (p + 1) (if bt x0 p = 45 then (p : Int) else c) (by omega) v h1 h2
      by_cases h45 : bt x0 p = 45
      · simp only [if_pos h45] at ih ⊢
        exact ih
      · simp only [if_neg h45] at ih ⊢
        exact ih

theorem rD (s : ByteArray) : Ev (fun k => portcullisref05_Decode.f k s) (decS s) := by
  unfold portcullisref05_Decode.f
  by_cases h63 : 63 < s.size
  · simp only [if_pos (show (s.size : Int) > 63 by omega)]
    unfold decS
    rw [if_pos h63]
    exact Ev.const _
  · simp only [if_neg (show ¬ (s.size : Int) > 63 by omega)]
    refine rD_l0 s (by omega) s.size 0 0 (by omega) _ ?_ ?_
    · intro hh
      rw [List.drop_zero] at hh
      unfold decS
      rw [if_neg h63, if_pos hh]
    · intro hh
      rw [List.drop_zero] at hh ⊢
      unfold decS
      rw [if_neg h63, if_neg (by rw [hh]; decide)]
      rw [show ((0 : Nat) : Int) = 0 from rfl]
      have hlb : 0 ≤ lastH (bytesOf s) 0 0 ∧ lastH (bytesOf s) 0 0 ≤ s.size ∧ (0 < lastH (bytesOf s) 0 0 → lastH (bytesOf s) 0 0 < s.size) := by
        rcases last_eq s with ⟨h1, h2⟩ | ⟨h1, h2, h3⟩ <;> omega
      obtain ⟨c, hc⟩ : ∃ c : Nat, lastH (bytesOf s) 0 0 = (c : Int) := ⟨(lastH (bytesOf s) 0 0).toNat, by omega⟩
      rw [hc] at hlb ⊢
      refine rD_l1 s (by omega) c (by omega) hh _ ?_ c 0 (by omega)
      by_cases h0 : 0 < (c : Int)
      · simp only [if_pos h0, if_pos (show (c : Int) > 0 from h0)]
        rw [w64 (n := (c : Int) + 1) (by omega) (by omega)]
        refine Ev.of_eq1 (fun k => by rw [portcullisref05_Decode.j2]) ?_
        have hl2 : ((bytesOf s).take c).length = c := by rw [List.length_take, bytesOf_length]; omega
        exact rD_l2 s (by omega) 64 (c + 1) _ 128 0 72 (by omega) (by omega) (by simp only [Int.toNat_natCast, hl2]; omega) (by omega) (by omega) (by omega) (by omega) (by omega) (by omega)
      · have hc0 : c = 0 := by omega
        subst hc0
        simp only [if_neg h0, if_neg (show ¬ ((0 : Nat) : Int) > 0 from h0), List.take_zero]
        refine Ev.of_eq1 (fun k => by rw [portcullisref05_Decode.j2]) ?_
        have hE := rD_l2 s (by omega) 64 0 [] 128 0 72 (by omega) (by omega) (by simp; omega) (by omega) (by omega) (by omega) (by simp) (by omega) (by omega)
        rw [List.drop_zero] at hE
        exact hE
end Go.Proofs.Ytmhlagakimckjaa.Pure

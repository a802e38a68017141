import Derived.Test.YtmhlagakimckjaaPL
import Derived.Test.YtmhlagakimckjaaQ12
/- What is proved: the pure statement of PunyPlain. -/
namespace Go.Proofs.Ytmhlagakimckjaa.Pure
open Go.RowKit Go.Proofs.Ytmhlagakimckjaa.Q Go.Proofs.YtmhlagakimckjaaW.PrintWords Go.Proofs.YtmhlagakimckjaaW.PrintLast
set_option linter.unusedVariables false
set_option linter.unusedSimpArgs false

theorem and127 (c : Int) : 0 ≤ Go.bits .and .u8 c 127 ∧ Go.bits .and .u8 c 127 ≤ 127 := by
  have key : ∀ a : BitVec 8, 0 ≤ IntKind.u8.wrap ((a &&& BitVec.ofInt 8 127).toNat : Int) ∧ IntKind.u8.wrap ((a &&& BitVec.ofInt 8 127).toNat : Int) ≤ 127 := by decide +kernel
  exact key (BitVec.ofInt 8 c)

theorem str_app (a b : List Int) : strOfNums a ++ strOfNums b = strOfNums (a ++ b) := by
  apply ByteArray.ext
  rw [ByteArray.data_append]
  simp [strOfNums]

theorem w1q {p m : Nat} (h : p < m) (hm : m ≤ 63) : wrap64 ((p : Int) + 1) = ((p + 1 : Nat) : Int) := by rw [w64 (by omega) (by omega)]; rfl

theorem l1_ev (s : ByteArray) (e : Int) (hs : s.size ≤ 63) (hb : ∀ c ∈ bytesOf s, c ≤ 127) (he : e = 0 ∨ s.toList = ([] : List UInt8)) : ∀ (q p : Nat), p + q = s.size → Ev (fun k => portcullislaw05_PunyPlain.l1 k s e p) true
  | 0, p, hp => by
    refine Ev.of_eq1 (fun k => by rw [portcullislaw05_PunyPlain.l1]) ?_
    simp only [if_neg (show ¬ (p : Int) < (s.size : Int) by omega)]
    by_cases c : e = 0
    · simp only [if_pos c]
      exact Ev.bind works_ev (Ev.const _)
    · rcases he with he | he
      · exact absurd he c
      · simp only [if_neg c, if_pos he]
        exact Ev.bind works_ev (Ev.const _)
  | q + 1, p, hp => by
    refine Ev.of_eq1 (fun k => by rw [portcullislaw05_PunyPlain.l1]) ?_
    have hd := byte_bt s p (by omega)
    have hm := hb (bt s p) (List.mem_of_mem_drop (i := p) (by rw [hd]; simp))
    simp only [if_pos (show (p : Int) < (s.size : Int) by omega), if_pos (show 0 ≤ (p : Int) by omega), if_neg (show ¬ bt s p ≥ 128 by omega)]
    rw [w1q (show p < s.size by omega) hs]
    exact l1_ev s e hs hb he q (p + 1) (by omega)

theorem encS_cases (l : List Int) : encS l = (⟨#[]⟩, 4) ∨ encS l = (⟨#[]⟩, 2) ∨ (l.length ≤ 63 ∧ valid l = true ∧ (encO l).length ≤ 63 ∧ encS l = (strOfNums (encO l), 0)) := by
  unfold encS
  by_cases c1 : 63 < l.length
  · rw [if_pos c1]; exact .inl rfl
  rw [if_neg c1]
  by_cases c2 : valid l = true
  · rw [if_pos c2]
    by_cases c3 : 63 < (encO l).length
    · rw [if_pos c3]; exact .inl rfl
    · rw [if_neg c3]; exact .inr (.inr ⟨by omega, c2, by omega, rfl⟩)
  · rw [if_neg c2]; exact .inr (.inl rfl)

theorem empty_list : (⟨#[]⟩ : ByteArray).toList = ([] : List UInt8) := by rw [ByteArray.toList_eq]

theorem j1_ev (L : List Int) (r : Int) (hL : L.length ≤ 62) (hb : ∀ c ∈ L, 0 ≤ c ∧ c ≤ 127) (hr : -2147483648 ≤ r ∧ r ≤ 2147483647) : Ev (fun k => portcullislaw05_PunyPlain.j1 k r L false) true := by
  refine Ev.of_eq1 (fun k => by rw [portcullislaw05_PunyPlain.j1]) ?_
  simp only [Bool.false_eq_true, if_false, List.length_nil, List.nil_append, Option.bind_some, if_pos (show 0 + L.length < 35184372088832 by omega), if_pos (show L.length < 35184372088832 by omega)]
  refine Ev.bind (pE (L ++ [r]) (fun x hx => by
    rcases List.mem_append.1 hx with hx | hx
    · have := hb x hx; omega
    · rw [List.mem_singleton] at hx; omega)) ?_
  rcases encS_cases (L ++ [r]) with e | e | ⟨h1, h2, h3, e⟩
  · rw [e]
    exact l1_ev _ _ (by decide) (by simp [bytesOf]) (.inr empty_list) 0 0 rfl
  · rw [e]
    exact l1_ev _ _ (by decide) (by simp [bytesOf]) (.inr empty_list) 0 0 rfl
  · rw [e]
    have hbd := encO_bd h1 h2
    have hby : bytesOf (strOfNums (encO (L ++ [r]))) = encO (L ++ [r]) := bytes_str _ (fun c hc => by have := hbd c hc; omega)
    have hsz : (strOfNums (encO (L ++ [r]))).size = (encO (L ++ [r])).length := by rw [← bytesOf_length, hby]
    exact l1_ev (strOfNums (encO (L ++ [r]))) 0 (by omega) (by rw [hby]; exact fun c hc => (hbd c hc).2) (.inl rfl) _ 0 (Nat.zero_add _)

theorem plain_enc (L : List Int) (hL : L.length ≤ 62) (hb : ∀ c ∈ L, 0 ≤ c ∧ c ≤ 127) : encS L = (strOfNums (if 0 < L.length then L ++ [45] else L), 0) := by
  have hba : basics L = L := List.filter_eq_self.2 fun c hc => decide_eq_true (by have := hb c hc; omega)
  have hk : kinds L = [] := by
    rcases h : kinds L with _ | ⟨m, ms⟩
    · rfl
    · have := (mem_kinds L m).1 (by rw [h]; simp)
      have h2 := hb m this.1
      omega
  have hv : valid L = true := by
    unfold valid
    rw [List.all_eq_true]
    intro c hc
    have := hb c hc
    unfold Go.Lib.validRune
    rw [decide_eq_true_eq]
    omega
  have ho : encO L = if 0 < L.length then L ++ [45] else L := by
    unfold encO
    rw [hk]
    unfold start
    rw [hba]
    rfl
  have hl : (encO L).length ≤ 63 := by
    rw [ho]
    split
    · simp only [List.length_append, List.length_singleton]; omega
    · omega
  unfold encS
  rw [if_neg (by omega), if_pos hv, if_neg (by omega), ho]

theorem l0_ev (s : ByteArray) (r : Int) (hs : s.size ≤ 62) (hr : -2147483648 ≤ r ∧ r ≤ 2147483647) : ∀ (q p : Nat) (L : List Int), p + q = s.size → L.length = p → (∀ c ∈ L, 0 ≤ c ∧ c ≤ 127) → Ev (fun k => portcullislaw05_PunyPlain.l0 k s r L (strOfNums L) p) true
  | 0, p, L, hp, hL, hb => by
    refine Ev.of_eq1 (fun k => by rw [portcullislaw05_PunyPlain.l0]) ?_
    have hby : bytesOf (strOfNums L) = L := bytes_str _ (fun c hc => by have := hb c hc; omega)
    have hsz : (strOfNums L).size = L.length := by rw [← bytesOf_length, hby]
    simp only [if_neg (show ¬ (p : Int) < (s.size : Int) by omega), List.length_nil, List.nil_append, if_pos (show 0 + L.length < 35184372088832 by omega)]
    refine Ev.bind (pE L (fun x hx => by have := hb x hx; omega)) ?_
    rw [plain_enc L (by omega) hb]
    simp only [if_true]
    by_cases c : 0 < L.length
    · have hne : ¬ (strOfNums L).toList = ([] : List UInt8) := by rw [toList_bytes, hby]; intro h; rw [h] at c; simp at c
      have h45 : strOfNums (L ++ [45]) = strOfNums L ++ (⟨#[45]⟩ : ByteArray) := by rw [← str_app]; rfl
      simp only [if_neg hne, if_pos c, h45, if_true, if_pos (show (strOfNums L).size + 1 ≤ 9223372036854775807 by omega)]
      exact j1_ev L r (by omega) hb hr
    · have hL0 : L = [] := List.length_eq_zero_iff.1 (by omega)
      have he : (strOfNums L).toList = ([] : List UInt8) := by rw [toList_bytes, hby]; exact hL0
      simp only [if_pos he, if_neg c]
      rw [he]
      exact j1_ev L r (by omega) hb hr
  | q + 1, p, L, hp, hL, hb => by
    refine Ev.of_eq1 (fun k => by rw [portcullislaw05_PunyPlain.l0]) ?_
    have hby : bytesOf (strOfNums L) = L := bytes_str _ (fun c hc => by have := hb c hc; omega)
    have hsz : (strOfNums L).size = L.length := by rw [← bytesOf_length, hby]
    have ha := and127 (bt s p)
    obtain ⟨a, haa⟩ : ∃ a, Go.bits .and .u8 (bt s p) 127 = a := ⟨_, rfl⟩
    rw [haa] at ha
    simp only [haa]
    have hs1 : (strOfNums [a]).size = 1 := rfl
    simp only [if_pos (show (p : Int) < (s.size : Int) by omega), if_pos (show 0 ≤ (p : Int) by omega), if_pos (show L.length < 35184372088832 by omega), Option.bind_some, hs1, if_pos (show (strOfNums L).size + 1 ≤ 9223372036854775807 by omega)]
    rw [w32 (n := a) (by omega) (by omega), str_app, w1q (show p < s.size by omega) (by omega)]
    exact l0_ev s r hs hr q (p + 1) (L ++ [a]) (by omega) (by simp [hL]) (fun c hc => by
      rcases List.mem_append.1 hc with hc | hc
      · exact hb c hc
      · rw [List.mem_singleton] at hc; omega)

theorem PunyPlain : portcullislaw05_PunyPlain.Pure := by
  intro a0 a1 _ hw
  refine Ev.get ?_
  have hr : -2147483648 ≤ a1 ∧ a1 ≤ 2147483647 := by
    simp only [Lit.wf, Bool.and_eq_true, decide_eq_true_eq] at hw
    exact hw
  unfold portcullislaw05_PunyPlain.f
  by_cases h : (a0.size : Int) > 62
  · simp only [if_pos h]
    exact Ev.bind works_ev (Ev.const _)
  · simp only [if_neg h]
    exact l0_ev a0 a1 (by omega) hr a0.size 0 [] (by omega) rfl (by simp)

end Go.Proofs.Ytmhlagakimckjaa.Pure

import Derived.Test.YtmhlagakimckjaaPL
import Derived.Test.YtmhlagakimckjaaQ11
/- What is proved: the pure statement of PunyBack. -/
namespace Go.Proofs.Ytmhlagakimckjaa.Pure
open Go.RowKit Go.Proofs.Ytmhlagakimckjaa.Q Go.Proofs.YtmhlagakimckjaaW.PrintWords Go.Proofs.YtmhlagakimckjaaW.PrintLast

theorem PunyBack : portcullislaw05_PunyBack.Pure := by
  intro l0 _ _ hw
  refine Ev.get ?_
  have hw' : ∀ r ∈ l0, -2147483648 ≤ r ∧ r ≤ 2147483647 := fun r hr => by
    have h := hw r hr
    simp only [Lit.wf, Bool.and_eq_true, decide_eq_true_eq] at h
    exact h
  unfold portcullislaw05_PunyBack.f
  by_cases h : (l0.length : Int) > 1024
  · simp only [if_pos h]
    exact Ev.bind works_ev (Ev.const _)
  · simp only [if_neg h, List.length_nil, List.nil_append, if_pos (show 0 + l0.length < 35184372088832 by omega)]
    refine Ev.bind (pE l0 hw') ?_
    have hempty : (⟨#[]⟩ : ByteArray).toList = ([] : List UInt8) := by rw [ByteArray.toList_eq]
    have hbad : ∀ c : Int, ¬ c = 0 → Ev (fun k => if c = 0 then ((puny_Decode.f k (⟨#[]⟩ : ByteArray)).bind fun bt242 => (if bt242.2 = 0 then ((portcullisref04_Same.f k bt242.1 l0).bind fun t246 => (if t246 = true then ((portcullislaw05_works.f k).bind fun t247 => (some t247)) else (some false))) else (some false))) else (if (⟨#[]⟩ : ByteArray).toList = ([] : List UInt8) then ((portcullislaw05_works.f k).bind fun t248 => (some t248)) else (some false))) true := by
      intro c hc
      simp only [if_neg hc, if_pos hempty]
      exact Ev.bind works_ev (Ev.const _)
    have hes : encS l0 = (⟨#[]⟩, 4) ∨ encS l0 = (⟨#[]⟩, 2) ∨ (l0.length ≤ 63 ∧ valid l0 = true ∧ (encO l0).length ≤ 63 ∧ encS l0 = (strOfNums (encO l0), 0)) := by
      unfold encS
      by_cases c1 : 63 < l0.length
      · rw [if_pos c1]; exact .inl rfl
      rw [if_neg c1]
      by_cases c2 : valid l0 = true
      · rw [if_pos c2]
        by_cases c3 : 63 < (encO l0).length
        · rw [if_pos c3]; exact .inl rfl
        · rw [if_neg c3]; exact .inr (.inr ⟨by omega, c2, by omega, rfl⟩)
      · rw [if_neg c2]; exact .inr (.inl rfl)
    rcases hes with e | e | ⟨h1, h2, h3, e⟩
    · rw [e]; exact hbad 4 (by decide)
    · rw [e]; exact hbad 2 (by decide)
    · rw [e]
      simp only [if_true]
      refine Ev.bind (pD _) ?_
      rw [encdec l0 h1 h2 h3]
      simp only [if_true]
      refine Ev.bind (same_ev l0 (by omega)) ?_
      simp only [if_true]
      exact Ev.bind works_ev (Ev.const _)

end Go.Proofs.Ytmhlagakimckjaa.Pure

import Derived.Test.YtmhlagakimckjaaPJ
/- What is proved: the pure statement of PunyWrites. -/
namespace Go.Proofs.Ytmhlagakimckjaa.Pure
open Go.RowKit Go.Proofs.Ytmhlagakimckjaa.Q Go.Proofs.YtmhlagakimckjaaW.PrintWords Go.Proofs.YtmhlagakimckjaaW.PrintLast

theorem wf32 {x : Int} (h : (Lit.int .i32 x).wf = true) : -2147483648 ≤ x ∧ x ≤ 2147483647 := by
  simp only [Lit.wf, Bool.and_eq_true, decide_eq_true_eq] at h
  exact h

theorem PunyWrites : portcullislaw05_PunyWrites.Pure := by
  intro l0 a1 a2 a3 _ _ hw _ _
  refine Ev.get ?_
  have hw' : ∀ r ∈ l0, -2147483648 ≤ r ∧ r ≤ 2147483647 := fun r hr => wf32 (hw r hr)
  unfold portcullislaw05_PunyWrites.f
  by_cases h : (l0.length : Int) > 1024
  · simp only [if_pos h]
    exact Ev.bind works_ev (Ev.const _)
  · simp only [if_neg h, List.length_nil, List.nil_append, if_pos (show 0 + l0.length < 35184372088832 by omega)]
    refine Ev.bind (pE l0 hw') ?_
    refine Ev.bind (rE l0) ?_
    simp only [if_true]
    by_cases h1 : a1 < 1099511627776
    · simp only [if_pos h1]
      refine Ev.bind (pA a1 a2 a3 (by omega)) ?_
      refine Ev.bind (rA a1 a2 a3 (by omega)) ?_
      simp only [if_true]
      exact Ev.bind works_ev (Ev.const _)
    · simp only [if_neg h1]
      exact Ev.bind works_ev (Ev.const _)

end Go.Proofs.Ytmhlagakimckjaa.Pure

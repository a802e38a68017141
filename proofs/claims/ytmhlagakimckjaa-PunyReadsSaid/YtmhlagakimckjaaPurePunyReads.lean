import Derived.Test.YtmhlagakimckjaaPurE
/- What is proved: the pure statement of PunyReads. -/
namespace Go.Proofs.Ytmhlagakimckjaa.Pure
open Go.RowKit Go.Proofs.Ytmhlagakimckjaa.Q Go.Proofs.YtmhlagakimckjaaW.PrintWords Go.Proofs.YtmhlagakimckjaaW.PrintLast

theorem PunyReads : portcullislaw05_PunyReads.Pure := by
  intro a0 _
  refine Ev.get ?_
  unfold portcullislaw05_PunyReads.f
  by_cases h : (a0.size : Int) > 1024
  · simp only [if_pos h]
    exact Ev.bind works_ev (Ev.const _)
  · simp only [if_neg h]
    refine Ev.bind (pD a0) ?_
    refine Ev.bind (rD a0) ?_
    refine Ev.bind (same_ev _ (Nat.le_trans (decS_len a0) (by decide))) ?_
    simp only [if_true]
    exact Ev.bind works_ev (Ev.const _)

end Go.Proofs.Ytmhlagakimckjaa.Pure

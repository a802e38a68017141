import Derived.Test.YtmhlagakimckjaaMem
import Derived.Laws.IdiomStrings
/- What is proved: '[]rune(s)' makes a row of one's own, of the string's code points; nothing old is changed. -/
namespace Go.Proofs.Ytmhlagakimckjaa.Q
open Go.RowKit Go.Proofs.YtmhlagakimckjaaW.PrintWords Go.Proofs.YtmhlagakimckjaaW.PrintLast Go.Proofs.YtmhlagakimckjaaW.PrintMore
set_option linter.unusedVariables false
set_option linter.unusedSimpArgs false

/-- The code points of a string, from a place on. -/
def runesAt (s : ByteArray) : Nat → Nat → List Int
  | 0, _ => []
  | b + 1, i => if i < s.size then Int.ofNat (Utf8.decode s i).1 :: runesAt s b (i + (Utf8.decode s i).2) else []
/-- The code points of a string. -/
def runesOf (s : ByteArray) : List Int := runesAt s s.size 0

theorem runesFrom_at (s : ByteArray) : ∀ (b i : Nat) (acc : Array Value), (Conv.runesFrom s b i acc).toList = acc.toList ++ nums .i32 (runesAt s b i)
  | 0, i, acc => by simp [Conv.runesFrom, runesAt, nums]
  | b + 1, i, acc => by
    unfold Conv.runesFrom runesAt
    by_cases h : i < s.size
    · rw [if_pos h, if_pos h]
      show (Conv.runesFrom s b (i + (Utf8.decode s i).2) (acc.push (.int .i32 (Int.ofNat (Utf8.decode s i).1)))).toList = _
      rw [runesFrom_at s b]
      simp [nums]
    · rw [if_neg h, if_neg h]
      simp [nums]

theorem runesAt_le (s : ByteArray) : ∀ b i, (runesAt s b i).length ≤ b
  | 0, i => by simp [runesAt]
  | b + 1, i => by
    unfold runesAt
    have := runesAt_le s b (i + (Utf8.decode s i).2)
    split
    · simp only [List.length_cons]; omega
    · simp

theorem runes_run {P : Program} (W : World) (base : Nat) (src dst e : TypeId) (hs : P.underlying src = some .string) (hd : P.underlying dst = some (.slice e)) (he : P.underlying e = some (.int .i32)) (y : ByteArray)
    (ok : Nat → Prop) (hfresh : ∀ k, W.heap.size ≤ k → ok k) (hbase : base ≤ W.heap.size) (hl : y.size < 35184372088832) :
    ∃ v1 w1, (convert src dst (.string y)).run P W = .ok v1 w1 ∧ (Kd.int .i32).R e w1 base ok v1 (runesOf y) ∧ W.grownBy w1 (Value.slice none 0 0).ownBlock ∧ (v1.ownBlock = (Value.slice none 0 0).ownBlock ∨ ∃ b, v1.ownBlock = some b ∧ W.heap.size ≤ b) := by
  have h0 : (Conv.runesFrom y y.size 0 #[]).toList = nums .i32 (runesOf y) := by rw [runesFrom_at]; simp [runesOf]
  have hsz : (Conv.runesFrom y y.size 0 #[]).size = (runesOf y).length := by rw [← Array.length_toList, h0]; simp [nums]
  have hle : (runesOf y).length ≤ y.size := runesAt_le y _ _
  have hrun := run_runes_of_string (P := P) W src dst e y hs hd he (by rw [hsz]; omega)
  rw [hsz] at hrun
  have hcap := grownCap_ge W (runesOf y).length 0 e
  have hcm := grownCap_le_maxLen W (runesOf y).length 0 e (by simp only [maxLen]; omega)
  refine ⟨_, _, hrun, Kd.R_of_own ?_ ?_, ?_, .inr ⟨W.heap.size, rfl, Nat.le_refl _⟩⟩
  · refine ⟨by simp [encs], .inr ⟨W.heap.size, _, _, rfl, hbase, by
      show (W.heap.push _)[W.heap.size]? = _
      rw [Array.getElem?_push_size], hcap, hcm, ?_, ?_⟩⟩
    · simp [hsz]; omega
    · rw [Array.toList_append, h0, Nat.mul_one, List.take_left' (by simp [nums])]
      rfl
  · intro k hk
    have hk' : W.heap.size = k := Option.some.inj hk
    exact hfresh k (by omega)
  · exact grown_of_below (below_alloc (below_drew1 (Below.refl _ _)) _) _

section
variable {P : Program} {ops : Array Oper} {Q : Exit → Act → World → Prop} {rest : List Oper} {o : Oper} {a : Act}
/-- '[]rune(s)' in a walk. -/
theorem conv_runes {w0 W : World} (base : Nat) (hgd : o.guard = none) (x : Operand) (src dst e : TypeId)
    (ho : o.op = .convert src dst x) (hs : P.underlying src = some .string) (hd : P.underlying dst = some (.slice e)) (he : P.underlying e = some (.int .i32))
    (y : ByteArray) (hx : a.eval x = .string y) (ok : Nat → Prop) (HO : (Kd.int .i32).R e W base ok (.slice none 0 0) ([] : List Int)) (hfresh : ∀ k, W.heap.size ≤ k → ok k)
    (HB : Below base w0 W) (hbase : base ≤ W.heap.size) (hl : y.size < 35184372088832)
    (h : ∀ v1 w1, (Kd.int .i32).R e w1 base ok v1 (runesOf y) → Below base w0 w1 → W.grownBy w1 (Value.slice none 0 0).ownBlock → (v1.ownBlock = (Value.slice none 0 0).ownBlock ∨ ∃ b, v1.ownBlock = some b ∧ W.heap.size ≤ b) → wpList P ops Q rest (a.put o.dst v1) w1) :
    wpList P ops Q (o :: rest) a W := by
  obtain ⟨v1, w1, hr1, h1, hg, hat⟩ := runes_run (P := P) W base src dst e hs hd he y ok hfresh hbase hl
  refine wpList_plain hgd fun K hK => ?_
  unfold Oper.wp execOp
  simp only [ho, Sem.run_bind, Sem.run_pure, Result.andThen_ok, hx, hr1]
  exact hK _ _ (h v1 w1 h1 (HB.grown hg hbase (fun k hk => by cases hk)) hg hat)
theorem conv_runes_step {Kc : Act → World → Prop} {w0 W : World} (base : Nat) (hw : Region.wanted o (yielded ops a.tmps) = true) (x : Operand) (src dst e : TypeId)
    (ho : o.op = .convert src dst x) (hs : P.underlying src = some .string) (hd : P.underlying dst = some (.slice e)) (he : P.underlying e = some (.int .i32))
    (y : ByteArray) (hx : a.eval x = .string y) (ok : Nat → Prop) (HO : (Kd.int .i32).R e W base ok (.slice none 0 0) ([] : List Int)) (hfresh : ∀ k, W.heap.size ≤ k → ok k)
    (HB : Below base w0 W) (hbase : base ≤ W.heap.size) (hl : y.size < 35184372088832)
    (h : ∀ v1 w1, (Kd.int .i32).R e w1 base ok v1 (runesOf y) → Below base w0 w1 → W.grownBy w1 (Value.slice none 0 0).ownBlock → (v1.ownBlock = (Value.slice none 0 0).ownBlock ∨ ∃ b, v1.ownBlock = some b ∧ W.heap.size ≤ b) → Kc (a.put o.dst v1) w1) :
    if Region.wanted o (yielded ops a.tmps) = true then Oper.wp P o a W Kc Q else Kc (a.put o.dst undef) W := by
  obtain ⟨v1, w1, hr1, h1, hg, hat⟩ := runes_run (P := P) W base src dst e hs hd he y ok hfresh hbase hl
  rw [if_pos hw]
  unfold Oper.wp execOp
  simp only [ho, Sem.run_bind, Sem.run_pure, Result.andThen_ok, hx, hr1]
  exact h v1 w1 h1 (HB.grown hg hbase (fun k hk => by cases hk)) hg hat
end
end Go.Proofs.Ytmhlagakimckjaa.Q

import Derived.Test.YtmhlagakimckjaaQ0
import Derived.Lib.Hide
import Derived.Maps.AppendAt
namespace Go.Proofs.Ytmhlagakimckjaa.Q
open Go.RowKit Go.Proofs.YtmhlagakimckjaaW.PrintWords Go.Proofs.YtmhlagakimckjaaW.PrintLast Go.Proofs.YtmhlagakimckjaaW.PrintMore
set_option linter.unusedVariables false
set_option linter.unusedSimpArgs false

theorem ret_int {k : IntKind} {a b : Int} (h : a = b) : Ending.returned (.int k a) = .returned (.int k b) := by rw [h]
theorem ret_ib {k : IntKind} {a b : Int} {p q : Bool} (h : a = b) (h' : p = q) : Ending.returned (.tuple #[.int k a, .bool p]) = .returned (.tuple #[.int k b, .bool q]) := by rw [h, h']

theorem setCell_blk {w : World} {g : Nat} {t : TypeId} {cur : Array Value} {fr : Nat × Nat} (h : w.heap[g]? = some (.cells cur t fr)) (o : Nat) (u : Value) :
    (w.setCell ⟨g, o, none⟩ u).heap[g]? = some (.cells (cur.setIfInBounds o u) t fr) := by
  simp only [World.setCell, Array.getElem?_modify, if_true, h]
  rfl

/-- The cells of a block, set one by one: the block as a whole. -/
theorem setCells_blk {g : Nat} {t : TypeId} {fr : Nat × Nat} : ∀ (vs : List Value) (o : Nat) (w : World) (cur : Array Value), w.heap[g]? = some (.cells cur t fr) → o + vs.length ≤ cur.size →
    ∃ cur', (w.setCells g o vs).heap[g]? = some (.cells cur' t fr) ∧ cur'.size = cur.size ∧ cur'.toList = cur.toList.take o ++ vs ++ cur.toList.drop (o + vs.length)
  | [], o, w, cur, h, _ => ⟨cur, h, rfl, by simp⟩
  | v :: r, o, w, cur, h, hl => by
    simp only [List.length_cons] at hl
    obtain ⟨cur', h1, h2, h3⟩ := setCells_blk r (o + 1) (w.setCell ⟨g, o, none⟩ v) _ (setCell_blk h o v) (by simp; omega)
    refine ⟨cur', h1, by rw [h2]; simp, ?_⟩
    have hs : (cur.setIfInBounds o v).toList = cur.toList.take o ++ v :: cur.toList.drop (o + 1) := by
      rw [Array.toList_setIfInBounds, List.set_eq_take_append_cons_drop, if_pos (by simp; omega)]
    have ht : (cur.toList.take o).length = o := by simp; omega
    rw [h3, hs]
    have e1 : (cur.toList.take o ++ v :: cur.toList.drop (o + 1)).take (o + 1) = cur.toList.take o ++ [v] := by
      rw [List.take_append, ht, List.take_of_length_le (by rw [ht]; omega)]
      simp
    have e2 : (cur.toList.take o ++ v :: cur.toList.drop (o + 1)).drop (o + 1 + r.length) = cur.toList.drop (o + (v :: r).length) := by
      rw [List.drop_append, ht, List.drop_eq_nil_of_le (by rw [ht]; omega), show o + 1 + r.length - o = r.length + 1 from by omega, List.drop_succ_cons, List.drop_drop]
      simp
      congr 1
      omega
    rw [e1, e2]
    simp

theorem setCells_grown (w : World) (g o : Nat) (vs : List Value) : w.grownBy (w.setCells g o vs) (some g) := by
  induction vs generalizing w o with
  | nil => exact ⟨rfl, rfl, rfl, Nat.le_refl _, fun _ _ _ => rfl⟩
  | cons v r ih =>
    have h := ih (w.setCell ⟨g, o, none⟩ v) (o + 1)
    refine ⟨h.os, h.tape, h.output, ?_, fun k hk hne => ?_⟩
    · show w.heap.size ≤ ((w.setCell ⟨g, o, none⟩ v).setCells g (o + 1) r).heap.size
      exact Nat.le_trans (by simp [World.setCell]) h.size
    · exact (h.block k (by simpa [World.setCell] using hk) hne).trans (Below.heap_setCell w _ v k (fun e => hne (by rw [e])))
/-- A grown row: a block is made first, then the row is written. -/
theorem grown_alloc {w w' : World} {o : Obj} {row : Option Nat} (h : (w.alloc o).grownBy w' row) : w.grownBy w' row :=
  ⟨h.os, h.tape, h.output, Nat.le_trans (by simp) h.size, fun k hk hne => (h.block k (by simp; omega) hne).trans (Below.heap_alloc w o k hk)⟩

/-- Two steps: what was written second is the first's row, or a new one. -/
theorem grown_step {w wr w1 : World} {u v : Option Nat} (h : w.grownBy wr u) (h1 : wr.grownBy w1 v) (hat : v = u ∨ ∃ b, v = some b ∧ w.heap.size ≤ b) : w.grownBy w1 u := by
  refine ⟨h1.os.trans h.os, h1.tape.trans h.tape, h1.output.trans h.output, Nat.le_trans h.size h1.size, fun k hk hne => ?_⟩
  refine (h1.block k (Nat.lt_of_lt_of_le hk h.size) ?_).trans (h.block k hk hne)
  rcases hat with rfl | ⟨b, rfl, hb⟩
  · exact hne
  · intro e; cases e; omega
theorem grown_set {w wr : World} {u : Option Nat} (h : w.grownBy wr u) {p : Addr} (hp : w.heap.size ≤ p.block) (x : Value) : w.grownBy (wr.setCell p x) u :=
  ⟨h.os, h.tape, h.output, Nat.le_trans h.size (by simp [World.setCell]), fun k hk hne => (Below.heap_setCell wr p x k (by omega)).trans (h.block k hk hne)⟩
theorem grown_new {w wr : World} {u : Option Nat} (h : w.grownBy wr u) (o : Obj) : w.grownBy (wr.alloc o) u :=
  ⟨h.os, h.tape, h.output, Nat.le_trans h.size (by simp), fun k hk hne => (Below.heap_alloc wr o k (Nat.lt_of_lt_of_le hk h.size)).trans (h.block k hk hne)⟩
theorem grown_below {w wr : World} (h : Below w.heap.size w wr) (u : Option Nat) : w.grownBy wr u := grown_of_below h u
theorem hat_step {n m : Nat} {u v v1 : Option Nat} (h : v = u ∨ ∃ b, v = some b ∧ n ≤ b) (h1 : v1 = v ∨ ∃ b, v1 = some b ∧ m ≤ b) (hm : n ≤ m) : v1 = u ∨ ∃ b, v1 = some b ∧ n ≤ b := by
  rcases h1 with rfl | ⟨b, rfl, hb⟩
  · exact h
  · exact .inr ⟨b, rfl, Nat.le_trans hm hb⟩
/-- A store into a block that is no own row's. -/
theorem own_far {w : World} {base : Nat} {e : TypeId} {size n : Nat} {v : Value} {xs : List Value} (h : w.ownsRow base e size v n xs) {p : Addr} (hp : v.ownBlock ≠ some p.block) (x : Value) : (w.setCell p x).ownsRow base e size v n xs :=
  own_setCell h (fun e_ => hp e_.symm) x

theorem nums_at (k : IntKind) (ys : List Int) (e : TypeId) (W : World) : ∀ (j : Nat) u, (nums k ys)[j]? = some u → (W.alloc (.cells (nums k ys).toArray e)).cell? ((⟨W.heap.size, 0, none⟩ : Addr).add j) = some u := by
  intro j u hj
  rw [add_plain, World.cell?_alloc_new]
  simpa using hj
theorem nums_one (k : IntKind) (ys : List Int) : ∀ u ∈ nums k ys, u.oneCell' = true := by intro u hu; simp only [nums, List.mem_map] at hu; obtain ⟨y, _, rfl⟩ := hu; rfl
theorem nums_at' (k : IntKind) (ys : List Int) (e : TypeId) (W : World) (n : Nat) (hn : n = W.heap.size) : ∀ (j : Nat) u, (nums k ys)[j]? = some u → (W.alloc (.cells (nums k ys).toArray e)).cell? ((⟨n, 0, none⟩ : Addr).add j) = some u := by
  subst hn; exact nums_at k ys e W
theorem size_set (w : World) (p : Addr) (x : Value) : w.heap.size = (w.setCell p x).heap.size := by simp [World.setCell]

/-- A block that is no written row reads as it did. -/
theorem grown_cell {w w1 : World} {u : Option Nat} (hg : w.grownBy w1 u) {b : Nat} (hb : b < w.heap.size) (hne : u ≠ some b) (o : Nat) : w1.cell? ⟨b, o, none⟩ = w.cell? ⟨b, o, none⟩ ∧ w1.frozen? ⟨b, o, none⟩ = w.frozen? ⟨b, o, none⟩ :=
  ⟨World.cell?_of_block (hg.block b hb (fun e => hne e.symm)), World.frozen?_of_block (hg.block b hb (fun e => hne e.symm))⟩
/-- .. behind a store into it, a new block, and an append to another row. -/
theorem set_new_grown {wr w1 : World} {u : Option Nat} {b : Nat} {x y : Value} {o : Obj} (hg : ((wr.setCell ⟨b, 0, none⟩ x).alloc o).grownBy w1 u) (hc : wr.cell? ⟨b, 0, none⟩ = some y) (hf : wr.frozen? ⟨b, 0, none⟩ = false) (hne : u ≠ some b) :
    w1.cell? ⟨b, 0, none⟩ = some x ∧ w1.frozen? ⟨b, 0, none⟩ = false := by
  have hb : b < wr.heap.size := World.block_lt_of_cell? wr _ hc
  obtain ⟨h1, h2⟩ := grown_cell hg (b := b) (by simp; omega) hne 0
  refine ⟨h1.trans ?_, h2.trans ?_⟩
  · rw [World.cell?_alloc_lt _ _ _ (by simpa using hb)]
    exact World.cell?_setCell_same' _ _ _ (by rw [hc]; rfl)
  · rw [World.frozen?_alloc_old _ _ _ (by simp; omega), World.frozen?_setCell]
    exact hf
theorem other_new_grown {wr w1 : World} {u : Option Nat} {b c : Nat} {x y : Value} {o : Obj} (hg : ((wr.setCell ⟨b, 0, none⟩ x).alloc o).grownBy w1 u) (hc : wr.cell? ⟨c, 0, none⟩ = some y) (hbc : b ≠ c) (hne : u ≠ some c) : w1.cell? ⟨c, 0, none⟩ = some y := by
  have hb : c < wr.heap.size := World.block_lt_of_cell? wr _ hc
  obtain ⟨h1, _⟩ := grown_cell hg (b := c) (by simp; omega) hne 0
  refine h1.trans ?_
  rw [World.cell?_alloc_lt _ _ _ (by simpa using hb)]
  exact (World.cell?_setCell_other _ _ _ _ (by simp [hbc])).trans hc

/-- Behind a row of the call's own that has grown: what the print's contracts tell. -/
theorem own_post {w w' w0 : World} {e : Nat} {k : IntKind} {P0_ : Nat → Prop} {v v' : Value} {n : Nat} {l xs : List Int} (hB : Below w0.heap.size w0 w)
    (ho0 : Kd.R (Kd.int k) e w w0.heap.size P0_ v l) (hg : w.grownBy w' v.ownBlock) (hat : v'.ownBlock = v.ownBlock ∨ ∃ b, v'.ownBlock = some b ∧ w.heap.size ≤ b)
    (ho' : w'.ownsRow w0.heap.size e 1 v' n (nums k xs)) (hn : n = xs.length) :
    Kd.R (Kd.int k) e w' w0.heap.size (fun k_ => (P0_ k_ ∨ w.heap.size ≤ k_)) v' xs ∧ Below w0.heap.size w0 w' ∧ Kept w w' (fun k_ => P0_ k_) := by
  subst hn
  have hbase : ∀ k, v.ownBlock = some k → w0.heap.size ≤ k := own_base (Kd.own_of_R ho0)
  refine ⟨Kd.R_of_own ho' ?_, hB.grown hg hB.size hbase, Kept.of_grown hg (Kept.refl _ _) (fun k hk => .inl (ho0.1 k hk))⟩
  intro k hk
  rcases hat with hat | ⟨b, hb, hge⟩
  · exact .inl (ho0.1 k (hat ▸ hk))
  · rw [hb] at hk
    cases hk
    exact .inr hge
end Go.Proofs.Ytmhlagakimckjaa.Q

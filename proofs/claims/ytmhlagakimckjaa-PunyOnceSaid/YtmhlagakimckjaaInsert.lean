import Derived.Test.YtmhlagakimckjaaMem
import Derived.Shelf.Spec.SlicesInsert
import Derived.Lib.AppendZerosOnto
import Derived.Laws.NewBlocks
import Derived.Deep.RegionLaw
namespace Go.Proofs.Ytmhlagakimckjaa.Q
open Go.RowKit Go.Proofs.YtmhlagakimckjaaW.PrintWords Go.Proofs.YtmhlagakimckjaaW.PrintLast Go.Proofs.YtmhlagakimckjaaW.PrintMore
set_option linter.unusedVariables false
set_option linter.unusedSimpArgs false

/-- slices.Insert at the end: an append. -/
theorem insert_end (base : Nat) (v : Value) (xs : List Int) (x : Int) (eb vc : Nat) (w : World) (hown : w.ownsRow base 21 1 v xs.length (nums .i32 xs))
    (he : w.cell? ⟨eb, 0, none⟩ = some (.int .i32 x)) (hb : base ≤ w.heap.size) (hlen : xs.length ≤ 1099511627776) :
    Calls Try.prog 28 #[v, .int .i64 xs.length, .slice (some ⟨eb, 0, none⟩) 1 vc] w fun e w' => ∃ v', e = .returned v' ∧ w'.ownsRow base 21 1 v' (xs.length + 1) (nums .i32 (xs ++ [x])) ∧ w.grownBy w' v.ownBlock ∧ (v'.ownBlock = v.ownBlock ∨ ∃ b, v'.ownBlock = some b ∧ w.heap.size ≤ b) := by
  obtain ⟨i0, hi, hz0, hz1, hz2⟩ := info_parts info21
  have hfin : nums .i32 (xs ++ [x]) = nums .i32 xs ++ [.int .i32 x] := by simp [nums]
  rw [hfin]
  have HO := Lib.hid hown
  have hnews : ∀ (j : Nat) (u : Value), [Value.int .i32 x][j]? = some u → w.cell? ((⟨eb, 0, none⟩ : Addr).add j) = some u := by
    intro j u hj
    cases j with
    | zero => simp at hj; subst hj; exact he
    | succ j => simp at hj
  have hn1 : ∀ u ∈ [Value.int .i32 x], u.oneCell' = true := by simp [Value.oneCell']
  have HN := Lib.hid hnews
  have HN1 := Lib.hid hn1
  have hml : xs.length + 1 ≤ maxLen := by unfold maxLen; omega
  have hl63 : (xs.length : Int) ≤ 9223372036854775807 := by omega
  rcases hown.2 with ⟨rfl, h0⟩ | ⟨g, cap, cur, rfl, hg, hh, hnc, hcm, hsz, hcur⟩
  · have hxs : xs = [] := List.length_eq_zero_iff.1 h0
    subst hxs
    clear hown hfin he hnews hn1 h0
    go_enter Try.func28, Try.ntmps28
    go_wp2_with (at_builtin; refine wpList_append_own_at _ rfl _ _ 22 rfl base 21 i0 (.int .i32 0) 1 4 Try.underlying22 hi hz0 hz1 hz2 rfl (by decide) _ _ _ rfl HO.out ⟨eb, 0, none⟩ 1 vc [.int .i32 x] rfl rfl HN.out HN1.out (by unfold maxLen; simp) (by simp) hb ?_; intro v' w1 hown' hgrow hn' hat')
    go_ret
    exact ⟨_, rfl, hown', hgrow, hat'.imp id (fun e => ⟨_, e, Nat.le_refl _⟩)⟩
  · clear hown hfin he hnews hn1 hh hcur hsz
    unfold maxLen at hcm
    by_cases hc : cap = xs.length
    · subst hc
      go_enter Try.func28, Try.ntmps28
      go_wp2_with (at_builtin; refine wpList_append_own_at _ rfl _ _ 22 rfl base 21 i0 (.int .i32 0) 1 4 Try.underlying22 hi hz0 hz1 hz2 rfl (by decide) _ _ _ rfl HO.out ⟨eb, 0, none⟩ 1 vc [.int .i32 x] rfl rfl HN.out HN1.out hml (by omega) hb ?_; intro v' w1 hown' hgrow hn' hat')
      go_ret
      exact ⟨_, rfl, hown', hgrow, hat'.imp id (fun e => ⟨_, e, Nat.le_refl _⟩)⟩
    · go_enter Try.func28, Try.ntmps28
      go_wp2_with (at_builtin; refine wpList_append_own_at _ rfl _ _ 22 rfl base 21 i0 (.int .i32 0) 1 4 Try.underlying22 hi hz0 hz1 hz2 rfl (by decide) _ _ _ rfl HO.out ⟨eb, 0, none⟩ 1 vc [.int .i32 x] rfl rfl HN.out HN1.out hml (by omega) hb ?_; intro v' w1 hown' hgrow hn' hat')
      go_ret
      exact ⟨_, rfl, hown', hgrow, hat'.imp id (fun e => ⟨_, e, Nat.le_refl _⟩)⟩

open Go.Lib in
set_option maxHeartbeats 1000000 in
/-- slices.Insert inside, and no room: a new row. -/
theorem insert_grow (g n i : Nat) (x : Int) (cs : List Value) (eb vc : Nat) (w : World) (hin : i < n) (hbig : (n + 1) * 4 ≤ 140737488355328)
    (hcl : cs.length = n) (hcs : ∀ (j : Nat) v, cs[j]? = some v → w.cell? ⟨g, j, none⟩ = some v) (h1c : ∀ v ∈ cs, v.oneCell' = true)
    (he : w.cell? ⟨eb, 0, none⟩ = some (.int .i32 x)) :
    Calls Try.prog 28 #[.slice (some ⟨g, 0, none⟩) n n, .int .i64 i, .slice (some ⟨eb, 0, none⟩) 1 vc] w fun e w' => ∃ G, n + 1 ≤ G ∧ G ≤ maxLen ∧
      e = .returned (.slice (some ⟨w.heap.size, 0, none⟩) (n + 1) G) ∧
      w' = (((w.alloc (.cells ((cs.take i).toArray ++ Builtin.zeroCells (Value.int .i32 0).cells (n + 1 - i) ++ Builtin.zeroCells (Value.int .i32 0).cells (G - (n + 1))) 21)).drew.setCells w.heap.size i [.int .i32 x]).drew).setCells w.heap.size (i + 1) (cs.drop i) := by
  have t22 := Try.underlying22
  have hvs : ∀ (j : Nat) (u : Value), [Value.int .i32 x][j]? = some u → w.cell? ⟨eb, 0 + j, none⟩ = some u := by
    intro j u hj
    cases j with
    | zero => simp at hj; subst hj; exact he
    | succ j => simp at hj
  have h1v : ∀ u ∈ [Value.int .i32 x], u.oneCell' = true := by simp [Value.oneCell']
  obtain ⟨i0, hi0, hz0, hzs, hzb⟩ := info_parts info21
  have hz2 : ¬ ((i : Int) = (n : Int)) := by omega
  have hz3 : (n : Int) < (n : Int) + 1 := by omega
  have hsz : (Try.prog.info? 21).map (·.size) = some 1 := by rw [hi0]; simp [hzs]
  have hbw : g < w.heap.size := block_lt_of_cell (hcs 0 _ (List.getElem?_eq_getElem (by omega)))
  have hvw : eb < w.heap.size := block_lt_of_cell he
  have hkk : (n : Int) + 1 - (i : Int) = ((n + 1 - i : Nat) : Int) := by omega
  have hik : i + (n + 1 - i) = n + 1 := by omega
  have hold : (Builtin.firstCells i0.size i (.slice (some ⟨g, 0, none⟩) i n)).run Try.prog w.drew = .ok (cs.take i).toArray w.drew := by
    rw [hzs]
    exact run_firstCells_some w.drew 1 i ⟨g, 0, none⟩ i n (cs.take i) (by rw [List.length_take]; omega) (fun j v hj => by
      rw [Addr.add_lit, Nat.zero_add]
      rw [List.getElem?_take] at hj
      split at hj
      · exact hcs j v hj
      · cases hj)
  have hrz : ∀ ty, (Builtin.append_ #[22, 3] ty #[.slice (some ⟨g, 0, none⟩) i n, .int .i64 ((n : Int) + 1 - (i : Int))]).run Try.prog w =
      .ok (.slice (some ⟨w.heap.size, 0, none⟩) (n + 1) (grownCap w (n + 1) n 21)) (w.drew.alloc (.cells ((cs.take i).toArray ++ Builtin.zeroCells (Value.int .i32 0).cells (n + 1 - i) ++ Builtin.zeroCells (Value.int .i32 0).cells (grownCap w (n + 1) n 21 - (n + 1))) 21)) := fun ty => by
    have h := Lib.run_append_grow_zeros w 22 3 ty 21 i0 _ .i64 .i64 Try.underlying22 Try.underlying3 hi0 hz0 (some ⟨g, 0, none⟩) i n (cs.take i) hold (n + 1 - i) (by omega) (by omega) (by omega) (by omega) (by rw [hzb]; omega) (by rw [hzb, hik]; exact growslice_fits (by omega) hbig)
    rw [hik] at h
    rw [hkk]
    exact h
  have hGn : n + 1 ≤ grownCap w (n + 1) n 21 := grownCap_ge w _ _ _
  have hGm := grownCap_le_maxLen w (n + 1) n 21 (by unfold maxLen; omega)
  obtain ⟨G, hG⟩ : ∃ G, G = grownCap w (n + 1) n 21 := ⟨_, rfl⟩
  rw [← hG] at hrz hGn hGm
  obtain ⟨ROW, hROW⟩ : ∃ ROW : Array Value, ROW = (cs.take i).toArray ++ Builtin.zeroCells (Value.int .i32 0).cells (n + 1 - i) ++ Builtin.zeroCells (Value.int .i32 0).cells (G - (n + 1)) := ⟨_, rfl⟩
  suffices hsuf : Calls Try.prog 28 #[.slice (some ⟨g, 0, none⟩) n n, .int .i64 i, .slice (some ⟨eb, 0, none⟩) 1 vc] w fun e w' => e = .returned (.slice (some ⟨w.heap.size, 0, none⟩) (n + 1) G) ∧
      w' = (((w.alloc (.cells ROW 21)).drew.setCells w.heap.size i [.int .i32 x]).drew).setCells w.heap.size (i + 1) (cs.drop i) by
    refine hsuf.mono ?_
    rintro e w' ⟨rfl, rfl⟩
    exact ⟨G, hGn, hGm, rfl, by rw [hROW]⟩
  rw [← hROW] at hrz
  have hRl : n + 1 ≤ ROW.size := by
    rw [hROW]
    simp [Builtin.zeroCells, Value.cells]
    omega
  obtain ⟨W1, hW1⟩ : ∃ W1, W1 = w.drew.alloc (.cells ROW 21) := ⟨_, rfl⟩
  rw [← hW1] at hrz
  have hN : ∀ j, j < n + 1 → (W1.cell? ⟨w.heap.size, j, none⟩).isSome = true := fun j hj => by
    rw [hW1, World.cell?_alloc_at (w := w.drew) ROW _ w.heap.size j rfl, Array.getElem?_eq_getElem (by omega)]; rfl
  have hNf : ∀ j, W1.frozen? ⟨w.heap.size, j, none⟩ = false := fun j => by rw [hW1]; exact World.frozen?_alloc_at (w := w.drew) ROW _ w.heap.size j rfl
  have hOb : ∀ j v, w.cell? ⟨g, j, none⟩ = some v → W1.cell? ⟨g, j, none⟩ = some v := fun j v h => by rw [hW1, World.cell?_alloc_past (w := w.drew) _ g j hbw]; exact h
  have hOv : ∀ j v, w.cell? ⟨eb, j, none⟩ = some v → W1.cell? ⟨eb, j, none⟩ = some v := fun j v h => by rw [hW1, World.cell?_alloc_past (w := w.drew) _ eb j hvw]; exact h
  have hcpA : ∀ (W : World), (∀ x, W.cell? x = W1.cell? x) → (∀ x, W.frozen? x = W1.frozen? x) → ∀ ty dc, (Builtin.copy_ #[22, 22] ty #[.slice (some ⟨w.heap.size, i, none⟩) (n + 1 - i) dc, .slice (some ⟨eb, 0, none⟩) 1 vc]).run Try.prog W = .ok (goInt ([Value.int .i32 x].length)) (W.setCells w.heap.size i [Value.int .i32 x]) := fun W hWc hWf ty dc =>
    run_copy_cells W _ _ ty 21 w.heap.size i (n + 1 - i) dc ⟨eb, 0, none⟩ 1 vc [Value.int .i32 x] Try.underlying22 hsz (by simp only [List.length_cons, List.length_nil, Nat.min_def]; split <;> omega)
      (fun j v hj => by rw [Addr.add_lit, hWc]; exact hOv _ v (hvs j v hj))
      (fun j hj => by simp at hj; rw [hWc]; exact hN _ (by omega)) (fun j hj => by rw [hWf]; exact hNf _) h1v
  have hG63 : G ≤ 9223372036854775807 := by unfold maxLen at hGm; omega
  have hGi : ¬ (G = i) := by omega
  have hGim : ¬ (G = i + 1) := by omega
  have hci : ¬ (n = i) := by omega
  have hbN : g ≠ w.heap.size := by omega
  have hdl : (cs.drop i).length = n - i := by rw [List.length_drop, hcl]
  have hcpB : ∀ (W : World), (∀ y, W.cell? y = (W1.setCells w.heap.size i [Value.int .i32 x]).cell? y) → (∀ y, W.frozen? y = (W1.setCells w.heap.size i [Value.int .i32 x]).frozen? y) → ∀ ty dc sc, (Builtin.copy_ #[22, 22] ty #[.slice (some ⟨w.heap.size, i + 1, none⟩) (n + 1 - (i + 1)) dc, .slice (some ⟨g, i, none⟩) (n - i) sc]).run Try.prog W = .ok (goInt (cs.drop i).length) (W.setCells w.heap.size (i + 1) (cs.drop i)) := fun W hWc hWf ty dc sc =>
    run_copy_cells W _ _ ty 21 w.heap.size (i + 1) (n + 1 - (i + 1)) dc ⟨g, i, none⟩ (n - i) sc (cs.drop i) Try.underlying22 hsz (by rw [hdl]; simp only [Nat.min_def]; split <;> omega)
      (fun j v hj => by
        rw [Addr.add_lit, hWc, World.cell?_setCells_out _ _ _ _ _ (fun h _ => absurd h hbN)]
        exact hOb _ v (hcs (i + j) v (by rwa [List.getElem?_drop] at hj)))
      (fun j hj => by rw [hWc]; exact isSome_setCells _ _ _ _ (fun t ht => hN _ (by simp at ht; omega)) _ (hN _ (by omega)))
      (fun j hj => by rw [hWf, World.frozen?_setCells]; exact hNf _) (fun v hv => h1c v (List.mem_of_mem_drop hv))
  subst hW1
  have hE1 : ∀ x, ((w.alloc (.cells ROW 21)).drew).cell? x = (w.drew.alloc (.cells ROW 21)).cell? x := fun x => rfl
  have hE2 : ∀ x, ((w.alloc (.cells ROW 21)).drew).frozen? x = (w.drew.alloc (.cells ROW 21)).frozen? x := fun x => rfl
  have hF1 : ∀ y, (((w.alloc (.cells ROW 21)).drew.setCells w.heap.size i [Value.int .i32 x]).drew).cell? y = ((w.drew.alloc (.cells ROW 21)).setCells w.heap.size i [Value.int .i32 x]).cell? y := fun x => rfl
  have hF2 : ∀ y, (((w.alloc (.cells ROW 21)).drew.setCells w.heap.size i [Value.int .i32 x]).drew).frozen? y = ((w.drew.alloc (.cells ROW 21)).setCells w.heap.size i [Value.int .i32 x]).frozen? y := fun x => rfl
  have hle : i ≤ n := by omega
  have hb3 : (i : Int) ≤ (n : Int) := by omega
  have hw1 : IntKind.i64.wrap ((i : Int) + 1) = (i : Int) + 1 := by rw [IntKind.wrap_i64]; omega
  have hb1 : (0 : Int) ≤ (i : Int) + 1 := by omega
  have htn : ((i : Int) + 1).toNat = i + 1 := by omega
  have hb4 : (i : Int) + 1 ≤ (n : Int) + 1 := by omega
  clear hkk hik hold hROW hG hRl
  go_enter Try.func28, Try.ntmps28
  go_wp2_with (first
    | (at_builtin; refine Lib.wpList_append_run _ rfl _ _ _ _ rfl _ _ rfl rfl _ _ (hrz _) ?_)
    | (at_builtin; refine wpList_copy_runI _ rfl _ _ 22 22 rfl _ _ rfl rfl (hcpA _ hE1 hE2 _ _) ?_)
    | (at_builtin; refine wpList_copy_runI _ rfl _ _ 22 22 rfl _ _ rfl rfl (hcpB _ (fun _ => rfl) (fun _ => rfl) _ _ _) ?_))
  go_region_law (refine step_copy_runI rfl _ _ 22 22 rfl (.slice (some ⟨w.heap.size, i + 1, none⟩) (n + 1 - (i + 1)) (G - (i + 1))) (.slice (some ⟨g, i, none⟩) (n - i) (n - i)) (by simp [Act.eval, Act.put]) (by simp [Act.eval, Act.put]) (hcpB _ hF1 hF2 3 (G - (i + 1)) (n - i)) ?_)
  go_wp2
  go_ret
  exact ⟨rfl, rfl⟩
open Go.Lib in
set_option maxHeartbeats 1000000 in
/-- slices.Insert inside, with room: in place. -/
theorem insert_shift (g n c i : Nat) (x : Int) (cs : List Value) (eb vc : Nat) (w : World) (hin : i < n) (hroom : n + 1 ≤ c) (hc63 : c ≤ 9223372036854775807) (hvb : eb ≠ g)
    (hcl : cs.length = n) (hcs : ∀ (j : Nat) v, cs[j]? = some v → w.cell? ⟨g, j, none⟩ = some v) (h1c : ∀ v ∈ cs, v.oneCell' = true)
    (hsp : ∀ j, j < n + 1 → (w.cell? ⟨g, j, none⟩).isSome = true) (hfz : ∀ j, w.frozen? ⟨g, j, none⟩ = false) (tB : TypeId) (kB : Nat) (hsb : w.shape? g = some (tB, kB)) (hkB : kB ≠ 0)
    (ec : Array Value) (heb : w.heap[eb]? = some (.cells ec 21 (0, 0))) (hec : ec[0]? = some (.int .i32 x)) :
    Calls Try.prog 28 #[.slice (some ⟨g, 0, none⟩) n c, .int .i64 i, .slice (some ⟨eb, 0, none⟩) 1 vc] w fun e w' => 
      e = .returned (.slice (some ⟨g, 0, none⟩) (n + 1) c) ∧ w' = (w.drew.setCells g (i + 1) (cs.drop i)).setCells g i [.int .i32 x] := by
  have he : w.cell? ⟨eb, 0, none⟩ = some (.int .i32 x) := by simp [World.cell?, heb, hec]
  have hvs : ∀ (j : Nat) (u : Value), [Value.int .i32 x][j]? = some u → w.cell? ⟨eb, 0 + j, none⟩ = some u := by
    intro j u hj
    cases j with
    | zero => simp at hj; subst hj; exact he
    | succ j => simp at hj
  have h1v : ∀ u ∈ [Value.int .i32 x], u.oneCell' = true := by simp [Value.oneCell']
  obtain ⟨i0, hi0, hz0, hzs, hzb⟩ := info_parts info21
  have hz2 : ¬ ((i : Int) = (n : Int)) := by omega
  have hsz : (Try.prog.info? 21).map (·.size) = some 1 := by rw [hi0]; simp [hzs]
  have hsa : w.shape? eb = some (21, ec.size) := by simp [World.shape?, heb]
  have hfa : w.frozen? ⟨eb, 0, none⟩ = false := by simp [World.frozen?, heb]
  have hfe : w.frozen? ⟨eb, ec.size, none⟩ = false := by simp [World.frozen?, heb]
  have hov : ∀ lb cb, (callFunc 39 #[.slice (some ⟨eb, 0, none⟩) 1 vc, .slice (some ⟨g, i + 1, none⟩) lb cb]).run Try.prog w = .ok (.value (.bool false)) w := fun lb cb => by
    rw [run_callFunc_extern Try.func39 (by kernel_rfl) (by kernel_rfl) (by kernel_rfl) (e := Extern.SlicesOverlaps.overlaps #[22, 22] #[4]) (by kernel_rfl),
      Lib.run_overlaps_apart w 22 4 21 Try.underlying22 1 (fun w => by kernel_rfl) ⟨eb, 0, none⟩ ⟨g, i + 1, none⟩ 1 vc lb cb hvb 21 tB ec.size kB hsa hsb hkB hfa hfe]
    rfl
  have hdl : (cs.drop i).length = n - i := by rw [List.length_drop, hcl]
  have hw1 : IntKind.i64.wrap ((i : Int) + 1) = (i : Int) + 1 := by rw [IntKind.wrap_i64]; omega
  have hb1 : (0 : Int) ≤ (i : Int) + 1 := by omega
  have hle : i ≤ n := by omega
  have htn : ((i : Int) + 1).toNat = i + 1 := by omega
  have hb2 : ¬ (c = i + 1) := by omega
  have hb3 : (i : Int) ≤ (n : Int) + 1 := by omega
  have hb4 : ¬ (c = i) := by omega
  have hb5 : (i : Int) + 1 ≤ (n : Int) + 1 := by omega
  have hcp1 : ∀ ty dc sc, (Builtin.copy_ #[22, 22] ty #[.slice (some ⟨g, i + 1, none⟩) (n - i) dc, .slice (some ⟨g, i, none⟩) (n + 1 - i) sc]).run Try.prog w.drew = .ok (goInt (cs.drop i).length) (w.drew.setCells g (i + 1) (cs.drop i)) := fun ty dc sc =>
    run_copy_cells w.drew _ _ ty 21 g (i + 1) (n - i) dc ⟨g, i, none⟩ (n + 1 - i) sc (cs.drop i) Try.underlying22 hsz (by rw [hdl]; simp only [Nat.min_def]; split <;> omega)
      (fun j v hj => by rw [Addr.add_lit]; exact hcs (i + j) v (by rwa [List.getElem?_drop] at hj))
      (fun j hj => by rw [hdl] at hj; exact hsp _ (by omega)) (fun j hj => hfz _) (fun v hv => h1c v (List.mem_of_mem_drop hv))
  obtain ⟨W1, hW1⟩ : ∃ W1, W1 = w.drew.setCells g (i + 1) (cs.drop i) := ⟨_, rfl⟩
  have hsp1 : ∀ k, k < n + 1 → (W1.cell? ⟨g, k, none⟩).isSome = true := fun k hk => by
    rw [hW1]
    exact isSome_setCells g _ _ _ (fun j hj => by rw [hdl] at hj; exact hsp _ (by omega)) _ (hsp k hk)
  have hcp2 : ∀ (W : World), (∀ y, W.cell? y = W1.cell? y) → (∀ y, W.frozen? y = W1.frozen? y) → ∀ ty dc, (Builtin.copy_ #[22, 22] ty #[.slice (some ⟨g, i, none⟩) (n + 1 - i) dc, .slice (some ⟨eb, 0, none⟩) 1 vc]).run Try.prog W = .ok (goInt ([Value.int .i32 x].length)) (W.setCells g i [Value.int .i32 x]) := fun W hWc hWf ty dc =>
    run_copy_cells W _ _ ty 21 g i (n + 1 - i) dc ⟨eb, 0, none⟩ 1 vc [Value.int .i32 x] Try.underlying22 hsz (by simp only [List.length_cons, List.length_nil, Nat.min_def]; split <;> omega)
      (fun j v hj => by
        rw [Addr.add_lit, hWc, hW1, World.cell?_setCells_out g _ _ _ _ (fun h _ => absurd h hvb)]
        exact hvs j v hj)
      (fun j hj => by simp at hj; rw [hWc]; exact hsp1 _ (by omega)) (fun j hj => by rw [hWf, hW1, World.frozen?_setCells]; exact hfz _) h1v
  rw [← hW1] at hcp1
  clear heb hec
  go_enter Try.func28, Try.ntmps28
  go_wp2_with (simp only [hov])
  go_region_law (refine step_copy_runI rfl _ _ 22 22 rfl _ _ (by simp [Act.eval, Act.put]) (by simp [Act.eval, Act.put]) (hcp1 _ _ _) ?_)
  go_wp2_with (at_builtin; refine wpList_copy_runI _ rfl _ _ 22 22 rfl _ _ rfl rfl (hcp2 _ (fun _ => rfl) (fun _ => rfl) _ _) ?_)
  go_ret
  first | exact ⟨rfl, rfl⟩ | exact ⟨rfl, by rw [hW1]⟩
/-- slices.Insert of one element into a row of the call's own. -/
theorem insert_calls (base : Nat) (v : Value) (xs : List Int) (x : Int) (i : Nat) (eb vc : Nat) (w : World) (hown : w.ownsRow base 21 1 v xs.length (nums .i32 xs)) (hi : i ≤ xs.length)
    (ec : Array Value) (heb : w.heap[eb]? = some (.cells ec 21 (0, 0))) (hec : ec[0]? = some (.int .i32 x)) (hne : v.ownBlock ≠ some eb) (hb : base ≤ w.heap.size) (hlen : xs.length ≤ 1099511627776) :
    Calls Try.prog 28 #[v, .int .i64 i, .slice (some ⟨eb, 0, none⟩) 1 vc] w fun e w' => ∃ v', e = .returned v' ∧ w'.ownsRow base 21 1 v' (xs.length + 1) (nums .i32 (xs.take i ++ x :: xs.drop i)) ∧ w.grownBy w' v.ownBlock ∧ (v'.ownBlock = v.ownBlock ∨ ∃ b, v'.ownBlock = some b ∧ w.heap.size ≤ b) := by
  have he : w.cell? ⟨eb, 0, none⟩ = some (.int .i32 x) := by simp [World.cell?, heb, hec]
  by_cases hil : i = xs.length
  · subst hil
    rw [List.take_length, List.drop_length]
    exact insert_end base v xs x eb vc w hown he hb hlen
  have hlt : i < xs.length := by omega
  rcases hown.2 with ⟨rfl, h0⟩ | ⟨g, cap, cur, rfl, hg, hh, hnc, hcm, hsz, hcur⟩
  · omega
  have hml : maxLen = 9223372036854775807 := rfl
  have hcl : (nums .i32 xs).length = xs.length := nums_length _ _
  have h1c : ∀ u ∈ nums .i32 xs, u.oneCell' = true := by intro u hu; simp only [nums, List.mem_map] at hu; obtain ⟨y, _, rfl⟩ := hu; rfl
  have hcs : ∀ (j : Nat) u, (nums .i32 xs)[j]? = some u → w.cell? ⟨g, j, none⟩ = some u := by
    intro j u hj
    rw [← hcur, Nat.mul_one] at hj
    rw [cell_of_row w g j cur 21 (0, 0) hh]
    rw [List.getElem?_take] at hj
    split at hj
    · simpa using hj
    · cases hj
  simp only [Nat.mul_one] at hsz
  have hspl : nums .i32 (xs.take i ++ x :: xs.drop i) = (nums .i32 xs).take i ++ .int .i32 x :: (nums .i32 xs).drop i := by simp [nums]
  have hfl : (nums .i32 (xs.take i ++ x :: xs.drop i)).length = (xs.length + 1) * 1 := by simp [nums]; omega
  by_cases hroom : xs.length + 1 ≤ cap
  · refine (insert_shift g xs.length cap i x (nums .i32 xs) eb vc w hlt hroom (by omega) (fun e => hne (by simp [Value.ownBlock, e])) hcl hcs h1c ?_ ?_ 21 cur.size ?_ (by omega) ec heb hec).mono ?_
    · intro j hj
      rw [cell_of_row w g j cur 21 (0, 0) hh, Array.getElem?_eq_getElem (by omega)]
      rfl
    · intro j; simp [World.frozen?, hh]
    · simp [World.shape?, hh]
    rintro e w' ⟨rfl, rfl⟩
    have hd : ((nums .i32 xs).drop i).length = xs.length - i := by rw [List.length_drop, hcl]
    obtain ⟨c1, a1, a2, a3⟩ := setCells_blk ((nums .i32 xs).drop i) (i + 1) w.drew cur hh (by rw [hd]; omega)
    obtain ⟨c2, b1, b2, b3⟩ := setCells_blk [Value.int .i32 x] i _ c1 a1 (by simp; omega)
    refine ⟨_, rfl, ⟨hfl, .inr ⟨g, cap, c2, rfl, hg, b1, by omega, hcm, by omega, ?_⟩⟩, ?_, .inl rfl⟩
    · have hct : cur.toList.take i = (nums .i32 xs).take i := by rw [← hcur, Nat.mul_one, List.take_take, Nat.min_eq_left (by omega)]
      have hlt1 : (cur.toList.take (i + 1)).length = i + 1 := by rw [List.length_take]; simp; omega
      have hlt0 : ((nums .i32 xs).take i).length = i := by rw [List.length_take, hcl]; omega
      have e1 : c1.toList.take i = (nums .i32 xs).take i := by
        rw [a3, List.append_assoc, List.take_append_of_le_length (by rw [hlt1]; omega), List.take_take, Nat.min_eq_left (by omega), hct]
      have e2 : c1.toList.drop (i + 1) = (nums .i32 xs).drop i ++ cur.toList.drop (i + 1 + (xs.length - i)) := by
        rw [a3, hd, List.append_assoc, List.drop_append_of_le_length (by rw [hlt1]; exact Nat.le_refl _), List.drop_of_length_le (by rw [hlt1]; exact Nat.le_refl _), List.nil_append]
      rw [b3, List.length_singleton, e1, e2, hspl, Nat.mul_one]
      have : (nums .i32 xs).take i ++ [Value.int .i32 x] ++ ((nums .i32 xs).drop i ++ cur.toList.drop (i + 1 + (xs.length - i))) = ((nums .i32 xs).take i ++ Value.int .i32 x :: (nums .i32 xs).drop i) ++ cur.toList.drop (i + 1 + (xs.length - i)) := by simp
      rw [this, List.take_left' (by rw [List.length_append, List.length_cons, hlt0, hd]; omega)]
    · have g1 := setCells_grown w.drew g (i + 1) ((nums .i32 xs).drop i)
      have g2 := setCells_grown (w.drew.setCells g (i + 1) ((nums .i32 xs).drop i)) g i [Value.int .i32 x]
      exact ⟨g2.os.trans g1.os, g2.tape.trans g1.tape, g2.output.trans g1.output, Nat.le_trans g1.size g2.size, fun k hk hne' => (g2.block k (Nat.lt_of_lt_of_le hk g1.size) hne').trans (g1.block k hk hne')⟩
  · have hcn : cap = xs.length := by omega
    subst hcn
    refine (insert_grow g xs.length i x (nums .i32 xs) eb vc w hlt (by omega) hcl hcs h1c he).mono ?_
    rintro e w' ⟨G, hG1, hG2, rfl, rfl⟩
    have hd : ((nums .i32 xs).drop i).length = xs.length - i := by rw [List.length_drop, hcl]
    have ht : ((nums .i32 xs).take i).length = i := by rw [List.length_take, hcl]; omega
    obtain ⟨ROW, hROW⟩ : ∃ ROW : Array Value, ROW = ((nums .i32 xs).take i).toArray ++ Builtin.zeroCells (Value.int .i32 0).cells (xs.length + 1 - i) ++ Builtin.zeroCells (Value.int .i32 0).cells (G - (xs.length + 1)) := ⟨_, rfl⟩
    rw [← hROW]
    have hRs : ROW.size = G := by rw [hROW]; simp [Builtin.zeroCells, Value.cells]; omega
    have hRt : ROW.toList.take i = (nums .i32 xs).take i := by
      rw [hROW, Array.toList_append, Array.toList_append, List.append_assoc, List.take_append_of_le_length (by simp; omega)]
      exact List.take_of_length_le (by rw [ht]; exact Nat.le_refl _)
    have hnew : ((w.alloc (.cells ROW 21)).drew).heap[w.heap.size]? = some (.cells ROW 21 (0, 0)) := heap_alloc_new w _
    obtain ⟨c1, a1, a2, a3⟩ := setCells_blk [Value.int .i32 x] i ((w.alloc (.cells ROW 21)).drew) ROW hnew (by simp; omega)
    obtain ⟨c2, b1, b2, b3⟩ := setCells_blk ((nums .i32 xs).drop i) (i + 1) (((w.alloc (.cells ROW 21)).drew.setCells w.heap.size i [Value.int .i32 x]).drew) c1 a1 (by rw [hd]; omega)
    refine ⟨_, rfl, ⟨hfl, .inr ⟨w.heap.size, G, c2, rfl, hb, b1, hG1, hG2, by omega, ?_⟩⟩, ?_, .inr ⟨_, rfl, Nat.le_refl _⟩⟩
    · have hlt1 : (ROW.toList.take i).length = i := by rw [hRt, ht]
      have e1 : c1.toList.take (i + 1) = (nums .i32 xs).take i ++ [Value.int .i32 x] := by
        rw [a3, List.take_append_of_le_length (by rw [List.length_append, hlt1]; simp), List.take_of_length_le (by rw [List.length_append, hlt1]; simp), hRt]
      rw [b3, e1, hspl, Nat.mul_one]
      have : (nums .i32 xs).take i ++ [Value.int .i32 x] ++ (nums .i32 xs).drop i = (nums .i32 xs).take i ++ Value.int .i32 x :: (nums .i32 xs).drop i := by simp
      rw [this, List.take_left' (by rw [List.length_append, List.length_cons, ht, hd]; omega)]
    · have g1 := setCells_grown ((w.alloc (.cells ROW 21)).drew) w.heap.size i [Value.int .i32 x]
      have g2 := setCells_grown (((w.alloc (.cells ROW 21)).drew.setCells w.heap.size i [Value.int .i32 x]).drew) w.heap.size (i + 1) ((nums .i32 xs).drop i)
      have s0 : w.heap.size ≤ ((w.alloc (.cells ROW 21)).drew).heap.size := by simp
      refine ⟨g2.os.trans g1.os, g2.tape.trans g1.tape, g2.output.trans g1.output, Nat.le_trans s0 (Nat.le_trans g1.size g2.size), fun k hk _ => ?_⟩
      exact (g2.block k (Nat.lt_of_lt_of_le (Nat.lt_of_lt_of_le hk s0) g1.size) (by simp; omega)).trans ((g1.block k (Nat.lt_of_lt_of_le hk s0) (by simp; omega)).trans (Below.heap_alloc w _ k hk))

/-- A row of the call's own that is read, and none of its blocks is what is written. -/
def Lit {α : Type} (d : Kd α) (e : TypeId) (W : World) (A : Option Addr) (n c : Nat) (xs : List α) (S : Nat → Prop) : Prop :=
  ∃ base ok, d.R e W base ok (.slice A n c) xs ∧ ∀ k, ok k → ¬ S k
theorem lit_own {α : Type} {d : Kd α} {e : TypeId} {W : World} {base : Nat} {ok S : Nat → Prop} {A : Option Addr} {n c : Nat} {xs : List α}
    (h : d.R e W base ok (.slice A n c) xs) (hok : ∀ k, ok k → ¬ S k) : Lit d e W A n c xs S := ⟨base, ok, h, hok⟩

def slices_Insert_rune_rune.f (l0 : List Int) (a1 : Int) (l2 : List Int) : Option (List Int) :=
  if 0 ≤ a1 ∧ a1 ≤ l0.length ∧ l0.length ≤ 1099511627776 then
    match l2 with
    | [x] => some (l0.take a1.toNat ++ x :: l0.drop a1.toNat)
    | _ => none
  else none

theorem slices_Insert_rune_rune.calls (P0_ : Nat → Prop) (u9000_ : Value) (l0 : List Int) (a1 : Int) (A2 : Option Addr) (c2 : Nat) (l2 : List Int) (r : List Int) (w0 w : World) (hB : Below w0.heap.size w0 w)
    (ho0 : Kd.R (Kd.int .i32) 21 w w0.heap.size P0_ u9000_ l0) (hr2 : Lit (Kd.int .i32) 21 w A2 l2.length c2 l2 P0_) (hc2 : l2.length ≤ c2) (h : slices_Insert_rune_rune.f l0 a1 l2 = some r) :
    Calls Try.prog 28 #[u9000_, .int .i64 a1, .slice A2 l2.length c2] w fun e w' => ∃ v0_ : Value, e = .returned (v0_) ∧ Kd.R (Kd.int .i32) 21 w' w0.heap.size (fun k_ => (P0_ k_ ∨ w.heap.size ≤ k_)) v0_ r ∧ Below w0.heap.size w0 w' ∧ Kept w w' (fun k_ => P0_ k_) := by
  unfold slices_Insert_rune_rune.f at h
  by_cases c : 0 ≤ a1 ∧ a1 ≤ l0.length ∧ l0.length ≤ 1099511627776
  · rw [if_pos c] at h
    obtain ⟨h0, h1, h2⟩ := c
    match l2, hr2, hc2, h with
    | [x], hr2, hc2, h =>
      simp only [Option.some.injEq] at h
      subst h
      obtain ⟨base2, ok2, hR2, hS⟩ := hr2
      have hown2 := Kd.own_of_R hR2
      rcases hown2.2 with ⟨_, h0'⟩ | ⟨g, cap, cur, hv, hg, hh, hnc, hcm, hsz, hcur⟩
      · simp at h0'
      injection hv with hA hn hcc
      subst hA
      have hec : cur[0]? = some (.int .i32 x) := by
        have : (cur.toList.take (([x] : List Int).length * 1))[0]? = some (.int .i32 x) := by rw [hcur]; rfl
        simpa using this
      obtain ⟨i, rfl⟩ : ∃ i : Nat, a1 = (i : Int) := ⟨a1.toNat, by omega⟩
      have hne : u9000_.ownBlock ≠ some g := fun e => hS g (hR2.1 g rfl) (ho0.1 g e)
      refine (insert_calls w0.heap.size u9000_ l0 x i g c2 w (Kd.own_of_R ho0) (by omega) cur hh hec hne hB.size h2).mono ?_
      rintro e w' ⟨v', rfl, hown', hgr, hat⟩
      have hlen : (l0.take i ++ x :: l0.drop i).length = l0.length + 1 := by simp; omega
      rw [show ((i : Int)).toNat = i from rfl]
      have hrow : w'.ownsRow w0.heap.size 21 1 v' (l0.take i ++ x :: l0.drop i).length (nums .i32 (l0.take i ++ x :: l0.drop i)) := by rw [hlen]; exact hown'
      exact ⟨v', rfl, own_post hB ho0 hgr hat hrow rfl⟩
  · rw [if_neg c] at h
    exact absurd h (by simp)
end Go.Proofs.Ytmhlagakimckjaa.Q

import Derived.Test.YtmhlagakimckjaaMem
import Derived.Test.YtmhlagakimckjaaSort
import Derived.Lib.SlicesCompact
import Derived.Lib.SortBridge
import Derived.WalkKit
import Derived.Deep.Draws
import Derived.Lib.Walk
import Derived.Sort.WalkB12
import Derived.Lib.SliceRun
import Derived.Deep.LoopGhost
namespace Go.Proofs.Ytmhlagakimckjaa.Q
open Go.RowKit Go.Lib Go.Sort Go.Proofs.YtmhlagakimckjaaW.PrintWords Go.Proofs.YtmhlagakimckjaaW.PrintLast Go.Proofs.YtmhlagakimckjaaW.PrintMore
set_option linter.unusedVariables false
set_option linter.unusedSimpArgs false

theorem compact_store {w wr : World} {n blk off : Nat} {dk : Array Int} {i : Nat} (hi : i < dk.size) (hwr : wr = putRow encE (Sort.ahead w n) blk off dk) (x : Int) :
    (wr.setCell ⟨blk, off + i, none⟩ (encE x)).drew = putRow encE (Sort.ahead w (n + 1)) blk off (dk.setIfInBounds i x) := by
  subst hwr
  rw [putRow_set encE _ blk off dk i x hi, ← ahead_drew]
  rfl

set_option maxHeartbeats 4000000 in
set_option maxRecDepth 1000000 in
theorem compact_arr (blk off cap : Nat) (d : Array Int) (w : World) (hH : Holds encE w blk off d) (hsz : d.size ≤ 9223372036854775807) (hcap : d.size ≤ cap) :
    Calls Try.prog 19 #[.slice (some ⟨blk, off, none⟩) d.size cap] w fun e w' => e = .returned (.slice (some ⟨blk, off, none⟩) (compactUpTo d d.size).length cap) ∧ ∃ q, w' = putRow encE (Sort.ahead w q) blk off (compactUpTo d d.size ++ List.replicate (d.size - (compactUpTo d d.size).length) 0).toArray := by
  have same : ∀ q, (∀ j, j < d.size → keeps d j = true) → (compactUpTo d d.size).length = d.size ∧ w.drewN q = putRow encE (Sort.ahead w q) blk off (compactUpTo d d.size ++ List.replicate (d.size - (compactUpTo d d.size).length) 0).toArray := by
    intro q hall
    have e : compactUpTo d d.size = d.toList := by rw [compactUpTo_all d _ hall, range_map_get]
    rw [e]
    refine ⟨by simp, ?_⟩
    simp only [Array.length_toList, Nat.sub_self, List.replicate_zero, List.append_nil, Array.toArray_toList]
    exact (putRow_self encE (Sort.ahead w q) blk off d (holds_ahead encE w q blk off d hH)).symm
  have HS : Aside (∀ q, (∀ j, j < d.size → keeps d j = true) → (compactUpTo d d.size).length = d.size ∧ w.drewN q = putRow encE (Sort.ahead w q) blk off (compactUpTo d d.size ++ List.replicate (d.size - (compactUpTo d d.size).length) 0).toArray) := same
  clear same
  by_cases h2 : d.size < 2
  · have HH : Aside (Holds encE w blk off d) := hH
    clear hH
    go_enter Try.func19, Try.ntmps19
    go_wp2
    go_ret
    obtain ⟨e1, e2⟩ := HS.out 0 (fun j hj => keeps_lt_one d j (by omega))
    exact ⟨by rw [e1]; rfl, 0, e2⟩
  · go_enter Try.func19, Try.ntmps19
    go_wp2
    go_loopg [3] d.size (fun g s3 wr => ∃ k q : Nat, 1 ≤ k ∧ k ≤ d.size ∧ d.size - k ≤ g ∧ s3 = .int .i64 k ∧ wr = w.drewN q ∧ ∀ j, j < k → keeps d j = true)
    case atStart => exact ⟨1, 0, Nat.le_refl _, by omega, by omega, rfl, rfl, keeps_lt_one d⟩
    case round =>
      obtain ⟨k, q, hk1, hk, hg, rfl, rfl, hall⟩ := hrel
      by_cases hlt : k < d.size
      · obtain ⟨c1, f1⟩ := hH k hlt
        obtain ⟨c0, f0⟩ := hH (k - 1) (by omega)
        have A : Aside (∀ j, j < k → keeps d j = true) := hall
        have HH : Aside (Holds encE w blk off d) := hH
        clear hall hH
        generalize hx : d[k]! = x at c1
        generalize hy : d[k - 1]! = y at c0
        have B : Aside (d[k]! = x ∧ d[k - 1]! = y) := ⟨hx, hy⟩
        clear hx hy
        by_cases hdup : x = y
        · subst hdup
          go_wp2_with fail
          go_region
          go_wp2
          clear c0 c1 f0 f1
          go_loopg [3, 5] d.size (fun g s3 s5 wr => ∃ (kk k2 q2 : Nat) (dk : Array Int), s3 = .int .i64 kk ∧ s5 = .int .i64 k2 ∧ 1 ≤ k2 ∧ k + k2 ≤ d.size ∧ d.size - (k + k2) ≤ g ∧ wr = putRow encE (Sort.ahead w q2) blk off dk ∧ CompInv d (k + k2) kk dk)
          case atStart => exact ⟨k, 1, q + 1, d, rfl, rfl, Nat.le_refl _, by omega, by omega, (putRow_self encE (Sort.ahead w (q + 1)) blk off d (holds_ahead encE w (q + 1) blk off d HH.out)).symm, CompInv.start A.out (keeps_neg (by omega) (by rw [B.out.1, B.out.2]))⟩
          case round =>
            obtain ⟨kk, k2, q2, dk, rfl, rfl, h1, hle, hg2, hwr, hI⟩ := hrel
            have hkk := hI.lt
            have hds := hI.size
            have hHk : Holds encE wr blk off dk := by rw [hwr]; exact holds_putRow encE _ blk off d dk (holds_ahead encE w q2 blk off d HH.out) hds
            have W2 : Aside (wr = putRow encE (Sort.ahead w q2) blk off dk) := hwr
            have I2 : Aside (CompInv d (k + k2) kk dk) := hI
            clear hwr
            by_cases hlt2 : k + k2 < d.size
            · obtain ⟨cm, _⟩ := hHk (k + k2) (by omega)
              obtain ⟨cp, _⟩ := hHk (k + k2 - 1) (by omega)
              obtain ⟨ck, fk⟩ := hHk kk (by omega)
              rw [hI.high (k + k2) (by omega), show off + (k + k2) = off + k + k2 by omega] at cm
              rw [hI.high (k + k2 - 1) (by omega), show off + (k + k2 - 1) = off + k + (k2 - 1) by omega] at cp
              clear hHk hI
              generalize hu : d[k + k2]! = u at cm
              generalize hv : d[k + k2 - 1]! = v at cp
              generalize dk[kk]! = old at ck
              have C : Aside (d[k + k2]! = u ∧ d[k + k2 - 1]! = v) := ⟨hu, hv⟩
              clear hu hv
              by_cases huv : u = v
              · subst huv
                go_wp2_with fail
                go_region
                go_wp2
                go_roundg (d.size - (k + (k2 + 1)))
                case measure => omega
                case rel => exact ⟨kk, k2 + 1, q2 + 1, dk, rfl, by go_num, by omega, by omega, Nat.le_refl _, by rw [W2.out]; rfl, I2.out.skip (keeps_neg (by omega) (by rw [C.out.1, C.out.2]))⟩
              · go_wp2_with fail
                go_region
                go_wp2
                go_roundg (d.size - (k + (k2 + 1)))
                case measure => omega
                case rel => exact ⟨kk + 1, k2 + 1, q2 + 1, dk.setIfInBounds kk u, by go_num, by go_num, by omega, by omega, Nat.le_refl _, compact_store (by omega) W2.out u, by have := I2.out.keep hlt2 (keeps_pos (by rw [C.out.1, C.out.2]; exact huv)); rwa [C.out.1] at this⟩
            · have hend : k + k2 = d.size := by omega
              have hcl : ∀ ty, (Builtin.clear_ #[22] ty #[.slice (some ⟨blk, off + kk, none⟩) (d.size - kk) (cap - kk)]).run Try.prog wr = .ok (.tuple #[]) (wr.setCells blk (off + kk) (List.replicate (d.size - kk) (encE 0))) :=
                fun ty => Lib.run_clear_slice wr _ _ ty _ Try.underlying22 Try.zeroValue21 rfl rfl blk (off + kk) _ _ (by omega) (fun j hj => by rw [show off + kk + j = off + (kk + j) by omega, (hHk (kk + j) (by omega)).1]; rfl) (fun j hj => by rw [show off + kk + j = off + (kk + j) by omega]; exact (hHk (kk + j) (by omega)).2)
              clear hHk hI
              go_wp2
              go_ret
              have hI := I2.out
              rw [hend] at hI
              refine ⟨by rw [hI.len]; rfl, q2, ?_⟩
              rw [hI.len, ← hI.done 0, ← putRow_setCells encE _ blk off _ dk kk (by simp; omega), ← W2.out, List.map_replicate]
        · go_wp2_with fail
          go_region
          go_wp2
          go_roundg (d.size - (k + 1))
          case measure => omega
          case rel =>
            refine ⟨k + 1, q + 1, by omega, by omega, Nat.le_refl _, by go_num, rfl, fun j hj => ?_⟩
            by_cases e : j = k
            · subst e
              exact keeps_pos (by rw [B.out.1, B.out.2]; exact hdup)
            · exact A.out j (by omega)
      · have : k = d.size := by omega
        subst this
        have HH : Aside (Holds encE w blk off d) := hH
        clear hH
        go_wp2
        go_ret
        obtain ⟨e1, e2⟩ := HS.out q hall
        exact ⟨by rw [e1]; rfl, q, e2⟩


/-- A row of the call's own, as the sort's words have it. -/
theorem holds_of_row {w : World} {g : Nat} {cur : Array Value} {l : List Int} (hh : w.heap[g]? = some (.cells cur 21 (0, 0))) (hcur : cur.toList.take l.length = nums .i32 l) : Holds (Value.int .i32) w g 0 l.toArray := by
  intro j hj
  have hj' : j < l.length := by simpa using hj
  refine ⟨?_, by simp [World.frozen?, hh]⟩
  rw [Nat.zero_add, cell_of_row w g j cur 21 (0, 0) hh]
  have e1 : (nums .i32 l)[j]? = some (.int .i32 l[j]) := by simp [nums, List.getElem?_eq_getElem hj']
  rw [← hcur, List.getElem?_take, if_pos hj'] at e1
  rw [← Array.getElem?_toList, e1]
  simp [hj']

def slices_Compact_rune_rune.f (l0 : List Int) : Option (List Int) := if l0.length ≤ 1099511627776 then some (Lib.compact l0) else none

theorem compact_none (w : World) : Calls Try.prog 19 #[.slice none 0 0] w fun e w' => e = .returned (.slice none 0 0) ∧ w = w' := by
  go_enter Try.func19, Try.ntmps19
  go_wp2
  go_ret
  exact ⟨rfl, rfl⟩

theorem slices_Compact_rune_rune.calls (P0_ : Nat → Prop) (u9000_ : Value) (l0 : List Int) (r : List Int) (w0 w : World) (hB : RowKit.Below w0.heap.size w0 w) (ho0 : Kd.R (Kd.int .i32) 21 w w0.heap.size P0_ u9000_ l0) (h : slices_Compact_rune_rune.f l0 = some r) :
    Calls Try.prog 19 #[u9000_] w fun e w' => ∃ v0_ : Value, e = .returned (v0_) ∧ Kd.R (Kd.int .i32) 21 w' w0.heap.size (fun k_ => (P0_ k_ ∨ w.heap.size ≤ k_)) v0_ r ∧ RowKit.Below w0.heap.size w0 w' ∧ Kept w w' (fun k_ => P0_ k_) := by
  unfold slices_Compact_rune_rune.f at h
  by_cases c : l0.length ≤ 1099511627776
  · rw [if_pos c] at h
    obtain rfl := Option.some.inj h
    have hown : w.ownsRow w0.heap.size 21 1 u9000_ l0.length (nums .i32 l0) := Kd.own_of_R ho0
    rcases hown.2 with ⟨rfl, h0⟩ | ⟨g, cap, cur, rfl, hg, hh, hnc, hcm, hsz, hcur⟩
    · have hx := List.length_eq_zero_iff.1 h0
      subst hx
      refine (compact_none w).mono ?_
      rintro e w' ⟨rfl, rfl⟩
      exact ⟨_, rfl, Kd.R_nil _ _ _ _ _, hB, Kept.refl _ _⟩
    · simp only [Nat.mul_one] at hsz hcur
      have hH := holds_of_row hh hcur
      refine (compact_arr g 0 cap l0.toArray w hH (by simp; omega) (by simpa using hnc)).mono ?_
      rintro e w' ⟨rfl, q, rfl⟩
      have hcle := Lib.compact_length_le l0
      have hce : compactUpTo l0.toArray l0.toArray.size = Lib.compact l0 := by simp [Lib.compact]
      rw [hce]
      obtain ⟨ys, hys⟩ : ∃ ys, Lib.compact l0 = ys := ⟨_, rfl⟩
      rw [hys] at hcle ⊢
      have hzl : (ys ++ List.replicate (l0.toArray.size - ys.length) (0 : Int)).length = l0.toArray.size := by simp; omega
      rw [Lib.putRow_eq_setCells (Value.int .i32) w g 0 l0.toArray _ q hH hzl]
      obtain ⟨zs, hzs⟩ : ∃ zs, ys ++ List.replicate (l0.toArray.size - ys.length) (0 : Int) = zs := ⟨_, rfl⟩
      have hpre : zs.take ys.length = ys := by rw [← hzs]; exact List.take_left' rfl
      rw [hzs] at hzl ⊢
      have hd : (zs.map (Value.int .i32)).length = l0.length := by rw [List.length_map, hzl]; simp
      obtain ⟨c1, a1, a2, a3⟩ := setCells_blk (zs.map (Value.int .i32)) 0 (w.drewN q) cur hh (by rw [hd]; omega)
      have hgr : w.grownBy ((w.drewN q).setCells g 0 (zs.map (Value.int .i32))) (some g) := by
        have g1 := setCells_grown (w.drewN q) g 0 (zs.map (Value.int .i32))
        exact ⟨g1.os, g1.tape, g1.output, g1.size, fun k hk hne => g1.block k hk hne⟩
      have hfin : ((w.drewN q).setCells g 0 (zs.map (Value.int .i32))).ownsRow w0.heap.size 21 1 (.slice (some ⟨g, 0, none⟩) ys.length cap) ys.length (nums .i32 ys) := by
        refine ⟨by rw [nums_length]; omega, .inr ⟨g, cap, c1, rfl, hg, a1, by omega, hcm, by omega, ?_⟩⟩
        rw [a3, List.take_zero, List.nil_append, Nat.mul_one, List.take_append_of_le_length (by rw [hd]; exact hcle), ← List.map_take, hpre]
        rfl
      obtain ⟨p1, p2, p3⟩ := own_post (v' := .slice (some ⟨g, 0, none⟩) ys.length cap) hB ho0 hgr (.inl rfl) hfin rfl
      exact ⟨_, rfl, p1, p2, p3⟩
  · rw [if_neg c] at h
    exact absurd h (by simp)
end Go.Proofs.Ytmhlagakimckjaa.Q

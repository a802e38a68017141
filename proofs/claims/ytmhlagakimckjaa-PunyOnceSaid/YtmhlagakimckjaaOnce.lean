import Derived.Test.YtmhlagakimckjaaPN
import Derived.Test.YtmhlagakimckjaaMem
import Derived.Laws.IdiomStrings
import Derived.Laws.BytesArg
/- What is proved: the walk of PunyOnce: it answers true. -/
namespace Go.Proofs.Ytmhlagakimckjaa.Pure
open Go.RowKit Go.Proofs.Ytmhlagakimckjaa.Q Go.Proofs.YtmhlagakimckjaaW.PrintWords Go.Proofs.YtmhlagakimckjaaW.PrintLast Go.Proofs.YtmhlagakimckjaaW.PrintMore
set_option linter.unusedVariables false
set_option linter.unusedSimpArgs false

/-- The block of '[]byte(s)': its first n cells. -/
def BB (w : World) (g n cap : Nat) (bs : List Int) : Prop := ∃ cur : Array Value, w.heap[g]? = some (.cells cur 5 (cap, cap + 1)) ∧ cur.size = cap ∧ n ≤ cap ∧ cur.toList.take n = nums .u8 bs ∧ bs.length = n
section
variable {w w' : World} {g n cap : Nat} {bs : List Int}
theorem BB.cell (h : BB w g n cap bs) {i : Nat} (hi : i < n) : w.cell? ⟨g, i, none⟩ = some (.int .u8 (bs.getD i 0)) := by
  obtain ⟨cur, hh, hs, hn, ht, hl⟩ := h
  have h1 : (cur.toList.take n)[i]? = some (.int .u8 (bs.getD i 0)) := by
    rw [ht]
    simp [nums, List.getD_eq_getElem?_getD, List.getElem?_eq_getElem (show i < bs.length by omega)]
  rw [List.getElem?_take, if_pos hi] at h1
  simp only [World.cell?, hh]
  simpa using h1
theorem BB.frozen (h : BB w g n cap bs) {i : Nat} (hi : i < n) : w.frozen? ⟨g, i, none⟩ = false := by
  obtain ⟨cur, hh, hs, hn, ht, hl⟩ := h
  simp only [World.frozen?, hh]
  simp
  omega
theorem BB.set (h : BB w g n cap bs) {i : Nat} (hi : i < n) (x : Int) : BB (w.setCell ⟨g, i, none⟩ (.int .u8 x)) g n cap (bs.set i x) := by
  obtain ⟨cur, hh, hs, hn, ht, hl⟩ := h
  refine ⟨cur.setIfInBounds i (.int .u8 x), setCell_blk hh i _, by simp [hs], hn, ?_, by simp [hl]⟩
  rw [Array.toList_setIfInBounds, List.take_set, ht]
  simp [nums, List.map_set]
theorem BB.below (h : BB w g n cap bs) (hb : Below w.heap.size w w') : BB w' g n cap bs := by
  obtain ⟨cur, hh, hs, hn, ht, hl⟩ := h
  refine ⟨cur, ?_, hs, hn, ht, hl⟩
  have hlt : g < w.heap.size := by
    rcases Nat.lt_or_ge g w.heap.size with h1 | h1
    · exact h1
    · rw [Array.getElem?_eq_none h1] at hh; cases hh
  rw [hb.block g hlt, hh]
end

section
variable {P : Program} {ops : Array Oper} {Q : Exit → Act → World → Prop} {rest : List Oper} {o : Oper} {a : Act}
theorem conv_bytes {W : World} (hgd : o.guard = none) (x : Operand) (src dst : TypeId)
    (ho : o.op = .convert src dst x) (hs : P.underlying src = some .string) (hd : P.underlying dst = some (.slice 5)) (he : P.underlying 5 = some (.int .u8))
    (y : ByteArray) (hx : a.eval x = .string y)
    (h : ∀ cap w1, BB w1 W.heap.size y.size cap (bytesOf y) → Below W.heap.size W w1 → y.size ≤ cap → W.heap.size < w1.heap.size → wpList P ops Q rest (a.put o.dst (.slice (some ⟨W.heap.size, 0, none⟩) y.size cap)) w1) :
    wpList P ops Q (o :: rest) a W := by
  have hr := run_bytes_of_string (P := P) W src dst 5 y hs hd he
  have hcap := grownCap_ge W y.size 0 5
  refine wpList_plain hgd fun K hK => ?_
  unfold Oper.wp execOp
  simp only [ho, Sem.run_bind, Sem.run_pure, Result.andThen_ok, hx, hr]
  have hsz : (bytesRow y (grownCap W y.size 0 5)).size = grownCap W y.size 0 5 := by
    unfold bytesRow
    rw [Array.size_append, Array.size_map, Array.size_replicate]
    show y.size + _ = _
    omega
  refine hK _ _ (h _ _ ⟨_, by
    show (W.heap.push _)[W.heap.size]? = _
    rw [Array.getElem?_push_size, hsz], hsz, hcap, ?_, bytesOf_length y⟩ ?_ hcap ?_)
  · unfold bytesRow
    rw [Array.toList_append, List.take_left' (by simp)]
    simp [nums, bytesOf]
  · exact below_alloc (below_drew1 (Below.refl _ _)) _
  · show W.heap.size < (W.heap.push _).size
    rw [Array.size_push]; omega
end

theorem low_list (bs : List Int) (i : Nat) (hi : i < bs.length) : bs.take i ++ (bs.drop i).map low = (bs.take (i + 1) ++ (bs.drop (i + 1)).map low).set i (low (bs.getD i 0)) := by
  have hd : bs.drop i = bs.getD i 0 :: bs.drop (i + 1) := by
    rw [List.drop_eq_getElem_cons hi]
    simp [List.getD_eq_getElem?_getD, hi]
  have ht : bs.take (i + 1) = bs.take i ++ [bs.getD i 0] := by
    rw [List.take_add_one]
    simp [List.getD_eq_getElem?_getD, hi]
  rw [hd, ht, List.map_cons, List.append_assoc, List.singleton_append, List.set_append_right _ _ (by rw [List.length_take]; omega), List.length_take]
  rw [show i - min i bs.length = 0 by omega]
  rfl
theorem low_same (bs : List Int) (i : Nat) (hi : i < bs.length) (h : low (bs.getD i 0) = bs.getD i 0) : bs.take i ++ (bs.drop i).map low = bs.take (i + 1) ++ (bs.drop (i + 1)).map low := by
  have hd : bs.drop i = bs.getD i 0 :: bs.drop (i + 1) := by
    rw [List.drop_eq_getElem_cons hi]
    simp [List.getD_eq_getElem?_getD, hi]
  have ht : bs.take (i + 1) = bs.take i ++ [bs.getD i 0] := by
    rw [List.take_add_one]
    simp [List.getD_eq_getElem?_getD, hi]
  rw [hd, ht, List.map_cons, List.append_assoc, List.singleton_append, h]
theorem low_at (bs : List Int) (i : Nat) (hi : i < bs.length) : (bs.take (i + 1) ++ (bs.drop (i + 1)).map low).getD i 0 = bs.getD i 0 := by
  simp only [List.getD_eq_getElem?_getD]
  rw [List.getElem?_append_left (by simp; omega), List.getElem?_take, if_pos (by omega)]

theorem low_stop (bs : List Int) (c : Nat) (h : bs[c]? = some 45) (hc : 0 < c) (hn : ∀ j, c < j → j < bs.length → ¬ bs.getD j 0 = 45) : bs.take (c + 1) ++ (bs.drop (c + 1)).map low = lowS bs := by
  have hl := lastH_at bs 0 0 c h (fun j hj x hx => by
    have hjl := (List.getElem?_eq_some_iff.1 hx).1
    have := hn j hj hjl
    rw [List.getD_eq_getElem?_getD, hx] at this
    exact this)
  unfold lowS
  rw [hl, if_pos (by omega), show (0 + (c : Int) + 1).toNat = c + 1 by omega]
theorem low_all (bs : List Int) (hn : ∀ j, 0 < j → j < bs.length → ¬ bs.getD j 0 = 45) : bs.take 0 ++ (bs.drop 0).map low = lowS bs := by
  have hl : lastH bs 0 0 = 0 := by
    rcases bs with _ | ⟨b, t⟩
    · rfl
    · have ht : ∀ x ∈ t, x ≠ 45 := by
        intro x hx
        obtain ⟨j, hj, rfl⟩ := List.mem_iff_getElem.1 hx
        have := hn (j + 1) (by omega) (by simp; omega)
        simpa [List.getD_eq_getElem?_getD, hj] using this
      unfold lastH
      rw [lastH_none t _ _ ht]
      split <;> rfl
  unfold lowS
  rw [hl, if_neg (by decide)]
  simp

set_option maxHeartbeats 2000000 in
theorem once_ok (k : Nat) (s : ByteArray) (l : List Int) (t : ByteArray) (w : World) (hs : s.size ≤ 63) (hD : puny_Decode.f k s = some (l, 0)) (hE : puny_Encode.f k l = some (strOfNums (lowS (bytesOf s)), 0)) (hW : portcullislaw05_works.f k = some true) :
    Calls Try.prog 6 #[.string s] w fun e w' => e = .returned (.bool true) ∧ Below w.heap.size w w' := by
  have AD := Aside0.mk hD
  have AE := Aside0.mk hE
  have AW := Aside0.mk hW
  have HB := Aside0.mk (Below.refl w.heap.size w)
  have hbl := bytesOf_length s
  have hbl2 := Aside0.mk hbl
  have c0 : decide (1024 < (s.size : Int)) = false := decide_eq_false (by omega)
  clear hD hE hW
  go_enter Try.func6, Try.ntmps6
  go_wp2_with (first | (go_at_call 13; refine (puny_Decode.calls k s l 0 _ AD.out).mono ?_; rintro e w1 ⟨v1, rfl, ho0, hb1⟩; obtain ⟨Ao, co, rfl⟩ := Kd.R_slice ho0; have HR := Aside0.mk ho0; have HB1 := Aside0.mk hb1; clear ho0 hb1) | (refine conv_bytes rfl (.tmp 26) 9 34 rfl Try.underlying9 Try.underlying34 Try.underlying5 s rfl ?_; intro cap w2 hbb hb2 hcap hsz2; have HBB := Aside0.mk hbb; have HB2 := Aside0.mk hb2; clear hbb hb2))
  go_loopw [6] (fun v6 wr => ∃ i : Nat, v6 = .int .i64 ((i : Int) - 1) ∧ i ≤ s.size ∧ Aside0 (BB wr w1.heap.size s.size cap ((bytesOf s).take i ++ ((bytesOf s).drop i).map low)) ∧ Aside0 (∀ j, i ≤ j → j < s.size → ¬ ((bytesOf s).getD j 0 = 45 ∧ 0 < j)) ∧ Aside0 (Below w1.heap.size w1 wr)) (fun v6 _ => (intOf v6 + 1).toNat)
  case atStart =>
    refine ⟨s.size, by go_num, Nat.le_refl _, ⟨?_⟩, ⟨fun j h1 h2 => by omega⟩, HB2⟩
    rw [List.take_of_length_le (by rw [hbl2.out]; exact Nat.le_refl _), List.drop_of_length_le (by rw [hbl2.out]; exact Nat.le_refl _), List.map_nil, List.append_nil]
    exact HBB.out
  case round =>
    obtain ⟨i, rfl, hi, HBr, HN, HBw⟩ := hrel
    have HRr := Aside0.mk (Kd.R_below HR.out HBw.out)
    cases i with
    | zero =>
      have FIN : Aside0 (BB wr w1.heap.size s.size cap (lowS (bytesOf s)) ∧ (lowS (bytesOf s)).length = s.size) := ⟨by
        have h1 := HBr.out
        rw [low_all (bytesOf s) (fun j h2 h3 h4 => HN.out j (by omega) (by rw [← hbl2.out]; exact h3) ⟨h4, h2⟩)] at h1
        exact ⟨h1, h1.choose_spec.2.2.2.2⟩⟩
      go_wp2_with (first | (go_at_call 9; refine (puny_Encode.calls k _ _ l _ 0 _ (Kd.R_reads' HRr.out).2.2 (Kd.R_reads' HRr.out).2.1 AE.out).mono ?_; rintro e w3 ⟨rfl, hb3⟩; have HB3 := Aside0.mk hb3; have hcv1 := run_convert_bytes_arg w3 34 5 Try.underlying34 Try.underlying5 w1.heap.size 0 s.size cap (lowS (bytesOf s)) (FIN.out.2) (fun j hj => by rw [Nat.zero_add]; exact (BB.below FIN.out.1 hb3).cell hj) 9 Try.underlying9; clear hb3) | (go_at_call 8; refine (portcullislaw05_works.calls k true _ AW.out).mono ?_; rintro e w4 ⟨rfl, hb4⟩; have HB4 := Aside0.mk hb4; clear hb4))
      go_ret
      exact ⟨by simp, below_step (below_step (below_step HB1.out HBw.out) HB3.out) HB4.out⟩
    | succ i =>
      have hlow := low_at (bytesOf s) i (by rw [hbl2.out]; omega)
      have hcell := HBr.out.cell (i := i) (by omega)
      have hfz := HBr.out.frozen (i := i) (by omega)
      rw [hlow] at hcell
      obtain ⟨c, hc⟩ : ∃ c, (bytesOf s).getD i 0 = c := ⟨_, rfl⟩
      rw [hc] at hcell
      have HC := Aside0.mk hc
      have hi1 : ((i + 1 : Nat) : Int) - 1 = (i : Int) := by omega
      rw [hi1]
      clear hlow hc
      by_cases c45 : c = 45 ∧ 0 < i
      · obtain ⟨h45, hi0⟩ := c45
        subst h45
        have FIN : Aside0 (BB wr w1.heap.size s.size cap (lowS (bytesOf s)) ∧ (lowS (bytesOf s)).length = s.size) := ⟨by
          have h1 := HBr.out
          rw [low_stop (bytesOf s) i (by
            have h5 := HC.out
            rw [List.getD_eq_getElem?_getD] at h5
            have hlt : i < (bytesOf s).length := by rw [hbl2.out]; omega
            rw [List.getElem?_eq_getElem hlt] at h5 ⊢
            exact congrArg some h5) hi0 (fun j h2 h3 h4 => HN.out j (by omega) (by rw [← hbl2.out]; exact h3) ⟨h4, by omega⟩)] at h1
          exact ⟨h1, h1.choose_spec.2.2.2.2⟩⟩
        go_wp2_with (first | (go_at_call 9; refine (puny_Encode.calls k _ _ l _ 0 _ (Kd.R_reads' HRr.out).2.2 (Kd.R_reads' HRr.out).2.1 AE.out).mono ?_; rintro e w3 ⟨rfl, hb3⟩; have HB3 := Aside0.mk hb3; have hcv1 := run_convert_bytes_arg w3 34 5 Try.underlying34 Try.underlying5 w1.heap.size 0 s.size cap (lowS (bytesOf s)) (FIN.out.2) (fun j hj => by rw [Nat.zero_add]; exact (BB.below FIN.out.1 hb3).cell hj) 9 Try.underlying9; clear hb3) | (go_at_call 8; refine (portcullislaw05_works.calls k true _ AW.out).mono ?_; rintro e w4 ⟨rfl, hb4⟩; have HB4 := Aside0.mk hb4; clear hb4))
        go_ret
        exact ⟨by simp, below_step (below_step (below_step HB1.out HBw.out) HB3.out) HB4.out⟩
      · by_cases h45 : c = 45
        · have hi0 : i = 0 := by omega
          subst hi0
          subst h45
          go_wp2
          go_roundw
          case rel =>
            refine ⟨0, by go_num, by omega, ⟨?_⟩, ⟨fun j h1 h2 h3 => ?_⟩, HBw⟩
            · rw [low_same _ _ (by rw [hbl2.out]; omega) (by rw [HC.out]; unfold low; rw [if_neg (by omega)])]
              exact HBr.out
            · rcases Nat.lt_or_ge 0 j with h4 | h4
              · exact HN.out j (by omega) h2 h3
              · have : j = 0 := by omega
                subst this
                rw [HC.out] at h3
                omega
          case measure => first | (simp [intOf]; done) | (simp [intOf]; omega)
        by_cases hcap : 65 ≤ c ∧ c ≤ 90
        · obtain ⟨hp, hq⟩ := hcap
          have hwr : IntKind.u8.wrap (c + 32) = c + 32 := by rw [IntKind.wrap_u8]; omega
          go_wp2
          go_roundw
          case rel =>
            refine ⟨i, by go_num, by omega, ⟨?_⟩, ⟨fun j h1 h2 h3 => ?_⟩, ⟨HBw.out.setCell (Nat.le_refl _) _⟩⟩
            · rw [low_list _ _ (by rw [hbl2.out]; omega), HC.out, show low c = c + 32 by unfold low; rw [if_pos ⟨by omega, by omega⟩]]
              exact HBr.out.set (by omega) _
            · rcases Nat.lt_or_ge i j with h4 | h4
              · exact HN.out j (by omega) h2 h3
              · have : j = i := by omega
                subst this
                rw [HC.out] at h3
                omega
          case measure => first | (simp [intOf]; done) | (simp [intOf]; omega)
        · by_cases hlo : 65 ≤ c
          · have hhi : ¬ c ≤ 90 := by omega
            go_wp2
            go_roundw
            case rel =>
              refine ⟨i, by go_num, by omega, ⟨?_⟩, ⟨fun j h1 h2 h3 => ?_⟩, HBw⟩
              · rw [low_same _ _ (by rw [hbl2.out]; omega) (by rw [HC.out]; unfold low; rw [if_neg (by omega)])]
                exact HBr.out
              · rcases Nat.lt_or_ge i j with h4 | h4
                · exact HN.out j (by omega) h2 h3
                · have : j = i := by omega
                  subst this
                  rw [HC.out] at h3
                  omega
            case measure => first | (simp [intOf]; done) | (simp [intOf]; omega)
          · skip
            go_wp2
            go_roundw
            case rel =>
              refine ⟨i, by go_num, by omega, ⟨?_⟩, ⟨fun j h1 h2 h3 => ?_⟩, HBw⟩
              · rw [low_same _ _ (by rw [hbl2.out]; omega) (by rw [HC.out]; unfold low; rw [if_neg (by omega)])]
                exact HBr.out
              · rcases Nat.lt_or_ge i j with h4 | h4
                · exact HN.out j (by omega) h2 h3
                · have : j = i := by omega
                  subst this
                  rw [HC.out] at h3
                  omega
            case measure => first | (simp [intOf]; done) | (simp [intOf]; omega)

theorem once_big (k : Nat) (s : ByteArray) (w : World) (hs : 1024 < s.size) (hW : portcullislaw05_works.f k = some true) :
    Calls Try.prog 6 #[.string s] w fun e w' => e = .returned (.bool true) ∧ Below w.heap.size w w' := by
  have AW := Aside0.mk hW
  have c0 : decide (1024 < (s.size : Int)) = true := decide_eq_true (by omega)
  clear hW
  go_enter Try.func6, Try.ntmps6
  go_wp2_with (first | (go_at_call 8; refine (portcullislaw05_works.calls k true _ AW.out).mono ?_; rintro e w4 ⟨rfl, hb4⟩; have HB4 := Aside0.mk hb4; clear hb4))
  go_ret
  exact ⟨by simp, HB4.out⟩

set_option maxHeartbeats 1000000 in
theorem once_bad (k : Nat) (s : ByteArray) (e0 : Int) (w : World) (hs : s.size ≤ 1024) (he : ¬ e0 = 0) (hD : puny_Decode.f k s = some ([], e0)) (hW : portcullislaw05_works.f k = some true) :
    Calls Try.prog 6 #[.string s] w fun e w' => e = .returned (.bool true) ∧ Below w.heap.size w w' := by
  have AD := Aside0.mk hD
  have AW := Aside0.mk hW
  have c0 : decide (1024 < (s.size : Int)) = false := decide_eq_false (by omega)
  have c1 : (e0 != 0) = true := bne_iff_ne.mpr he
  clear hD hW
  go_enter Try.func6, Try.ntmps6
  go_wp2_with (first | (go_at_call 13; refine (puny_Decode.calls k s [] e0 _ AD.out).mono ?_; rintro e w1 ⟨v1, rfl, ho0, hb1⟩; obtain ⟨Ao, co, rfl⟩ := Kd.R_slice ho0; have HR := Aside0.mk ho0; have HB1 := Aside0.mk hb1; clear ho0 hb1) | (go_at_call 8; refine (portcullislaw05_works.calls k true _ AW.out).mono ?_; rintro e w4 ⟨rfl, hb4⟩; have HB4 := Aside0.mk hb4; clear hb4))
  go_ret
  exact ⟨by simp, below_step HB1.out HB4.out⟩

theorem once_walk (s : ByteArray) (w : World) : Calls Try.prog 6 #[.string s] w fun e w' => e = .returned (.bool true) ∧ Below w.heap.size w w' := by
  by_cases hb : 1024 < s.size
  · obtain ⟨k, hk⟩ := works_ev.get
    exact once_big k s w hb hk
  · rcases hd : decS s with ⟨l, e0⟩
    by_cases he : e0 = 0
    · subst he
      obtain ⟨h1, h2, h3, h4⟩ := onceS s l hd
      have hE := pE l (fun r hr => by have := h4 r hr; omega)
      have hD := pD s
      rw [hd] at hD
      rw [h1] at hE
      obtain ⟨k0, e1⟩ := hD
      obtain ⟨k1, e2⟩ := hE
      obtain ⟨k2, e3⟩ := works_ev
      exact once_ok (max k0 (max k1 k2)) s l s w h2 (e1 _ (by omega)) (e2 _ (by omega)) (e3 _ (by omega))
    · have hl : l = [] := by
        rcases decS_bad s with h | h
        · rw [hd] at h; exact absurd h he
        · rw [hd] at h; exact h
      subst hl
      have hD := pD s
      rw [hd] at hD
      obtain ⟨k, e1, e2⟩ := hD.both works_ev
      exact once_bad k s e0 w (by omega) he e1 e2
end Go.Proofs.Ytmhlagakimckjaa.Pure

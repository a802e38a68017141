import Derived.Test.YtfndanccnjggfaaDoorZRA
import Derived.Shelf.Abstract
import Derived.Shelf.RegionOpen
import Derived.WalkKit
import Derived.OwnWalkIn
import Derived.TacticsInMore
import Derived.LoopNIn
import Derived.LoopIn
import Derived.RegionIn
import Derived.RecoverIn
import Derived.Shelf.Strings.BuilderX
import Derived.Shelf.Unicode.ValidAny
/- What is proved: what (*line).reads takes: all tokens of a line, or where its fault is. -/
namespace Go.Proofs.YtfndanccnjggfaaDoor.Q
open Go.RowKit Go.Proofs.YtfndanccnjggfaaDoorW.PrintWords Go.Proofs.YtfndanccnjggfaaDoorW.PrintLast Go.Proofs.YtfndanccnjggfaaDoorW.PrintMore
set_option linter.unusedVariables false
set_option linter.unusedSimpArgs false
/-- How long the word at place i is. -/
def wlen (s : ByteArray) (i : Nat) : Nat :=
  if Lib.indexAny (s.extract i s.size).data.toList sep6.data.toList < 0 then s.size - i else (Lib.indexAny (s.extract i s.size).data.toList sep6.data.toList).toNat
def readFrom (s : ByteArray) (n : Int) : Nat → Nat → List S36 → Except Nat (List S36)
  | 0, _, l => .ok l
  | f + 1, i, l =>
    if i < s.size then
      if bn s i = 32 ∨ bn s i = 9 then readFrom s n f (i + 1) l
      else if bn s i = 35 then .ok l
      else if bn s i = 44 then readFrom s n f (i + 1) (l ++ [⟨3, ⟨#[]⟩, n, (i : Int)⟩])
      else if bn s i = 33 then readFrom s n f (i + 1) (l ++ [⟨4, ⟨#[]⟩, n, (i : Int)⟩])
      else if bn s i = 34 then
        match textF s i with
        | .ok (t, e) => readFrom s n f e (l ++ [⟨2, strOfNums t, n, (i : Int)⟩])
        | .error j => .error j
      else readFrom s n f (i + wlen s i) (l ++ [⟨1, s.extract i (i + wlen s i), n, (i : Int)⟩])
    else .ok l
def readF (s : ByteArray) (n : Int) : Except Nat (List S36) :=
  match readFrom s n s.size 0 [] with
  | .ok l => .ok (if l.length = 0 then l else l ++ [⟨5, ⟨#[]⟩, n, (s.size : Int)⟩])
  | .error j => .error j
theorem textFrom_ok {s : ByteArray} {a : Nat} : ∀ {f i : Nat} {b t : List Int} {e : Nat}, textFrom s a f i b = .ok (t, e) → i < e ∧ e ≤ s.size
  | 0, i, b, t, e, h => by simp [textFrom] at h
  | f + 1, i, b, t, e, h => by
    unfold textFrom at h
    split at h
    · split at h
      · simp only [Except.ok.injEq, Prod.mk.injEq] at h; omega
      · split at h
        · split at h
          · have := textFrom_ok h; omega
          · split at h
            · split at h
              · cases h
              · have := textFrom_ok h; omega
            · cases h
        · have := textFrom_ok h; omega
    · cases h
theorem indexAny_lt (cs : List UInt8) : ∀ l : List UInt8, Lib.indexAny l cs < l.length ∨ Lib.indexAny l cs = -1
  | [] => Or.inr rfl
  | b :: l => by
    have ih := indexAny_lt cs l
    unfold Lib.indexAny
    split
    · refine Or.inl ?_
      simp only [List.length_cons]
      omega
    · split
      · exact Or.inr rfl
      · rename_i h
        left
        rcases ih with ih | ih
        · simp only [List.length_cons]; omega
        · rw [ih] at h; simp at h
theorem wlen_bounds (s : ByteArray) (i : Nat) (h : i < s.size) (hc : bn s i ≠ 32 ∧ bn s i ≠ 9 ∧ bn s i ≠ 44 ∧ bn s i ≠ 33 ∧ bn s i ≠ 34 ∧ bn s i ≠ 35) : 1 ≤ wlen s i ∧ i + wlen s i ≤ s.size := by
  obtain ⟨c, hl, hb⟩ := bt_list s i h
  have hd : (s.extract i s.size).data.toList = c :: s.data.toList.drop (i + 1) := by
    rw [extract_data]
    obtain ⟨h1, rfl⟩ := List.getElem?_eq_some_iff.1 hl
    exact List.drop_eq_getElem_cons h1
  have hn : sep6.data.toList.contains c = false := by
    rw [Bool.eq_false_iff]
    intro hm
    have hm : c ∈ sep6.data.toList := by simpa using hm
    rw [hb] at hc
    have : ∀ x ∈ sep6.data.toList, (x.toNat : Int) = 32 ∨ (x.toNat : Int) = 9 ∨ (x.toNat : Int) = 44 ∨ (x.toNat : Int) = 33 ∨ (x.toNat : Int) = 34 ∨ (x.toNat : Int) = 35 := by decide
    have := this c hm
    omega
  have hlen : (s.data.toList.drop (i + 1)).length = s.size - (i + 1) := by rw [List.length_drop, Lib.size_eq]
  unfold wlen
  rw [hd]
  unfold Lib.indexAny
  rw [hn]
  simp only [Bool.false_eq_true, if_false]
  have hge := Lib.indexAny_ge sep6.data.toList (s.data.toList.drop (i + 1))
  by_cases h1 : Lib.indexAny (s.data.toList.drop (i + 1)) sep6.data.toList = -1
  · have hq : (Lib.indexAny (s.data.toList.drop (i + 1)) sep6.data.toList == -1) = true := by rw [h1]; rfl
    rw [if_pos hq, if_pos (by omega)]
    omega
  · have hq : ¬ (Lib.indexAny (s.data.toList.drop (i + 1)) sep6.data.toList == -1) = true := by simpa using h1
    have hlt : Lib.indexAny (s.data.toList.drop (i + 1)) sep6.data.toList < (s.data.toList.drop (i + 1)).length := by
      rcases indexAny_lt sep6.data.toList (s.data.toList.drop (i + 1)) with h2 | h2
      · exact h2
      · exact absurd h2 h1
    rw [if_neg hq, if_neg (by omega)]
    omega
theorem LineAt.cells {base b : Nat} {s : ByteArray} {n : Int} {l : List S36} {w : World} (h : LineAt base b s n l w) :
    ∃ A c, w.cell? ⟨b, 0, none⟩ = some (.string s) ∧ w.cell? ⟨b, 2, none⟩ = some (.slice A l.length c) ∧ w.cell? ⟨b, 1, none⟩ = some (.int .i64 n) := by
  obtain ⟨h1, v, h2, h3⟩ := h
  obtain ⟨A, c, rfl⟩ := Kd.R_slice h3
  exact ⟨A, c, blk_cell h2 0, blk_cell h2 2, blk_cell h2 1⟩
theorem line_after {base b : Nat} {s : ByteArray} {n : Int} {l : List S36} {w0 w W : World} (h : LineAt base b s n l w) (hb : Below base w0 w) (hbr : base ≤ w.heap.size) (h1 : Below w.heap.size w W) :
    LineAt base b s n l W ∧ Below base w0 W ∧ base ≤ W.heap.size ∧ W.cell? ⟨b, 0, none⟩ = some (.string s) := by
  have h2 := h.below h1
  obtain ⟨A, c, c0, _⟩ := h2.cells
  exact ⟨h2, hb.trans (h1.mono hbr), Nat.le_trans hbr h1.size, c0⟩
def ReadEnd (base b : Nat) (s : ByteArray) (n : Int) : Except Nat (List S36) → Ending → World → Prop
  | .ok l, r, w' => r = .returned (.tuple #[]) ∧ LineAt base b s n l w'
  | .error i, r, _ => r = .panicked [flt 151 n (i : Int)]
set_option maxHeartbeats 8000000 in
set_option maxRecDepth 1000000 in
theorem reads_calls (base b : Nat) (s : ByteArray) (n : Int) (w : World) (h : LineAt base b s n [] w) (hbase : base ≤ w.heap.size) (hs : s.size ≤ 65536) :
    Calls Tryd.prog 19 #[.pointer (some ⟨b, 0, none⟩)] w fun r w' => ReadEnd base b s n (readF s n) r w' ∧ Below base w w' := by
  have HL := Aside0.mk h
  clear h
  obtain ⟨K, hK⟩ : ∃ K, K = readF s n := ⟨_, rfl⟩
  rw [← hK]
  unfold readF at hK
  go_enter Tryd.func19, Tryd.ntmps19
  go_wp2
  go_step3
  go_wp2
  go_step3
  go_wp2
  go_loopw [2] (fun p2 wr => ∃ (i fuel : Nat) (l : List S36), p2 = .int .i64 (i : Int) ∧ LineAt base b s n l wr ∧ Below base w wr ∧ readFrom s n fuel i l = readFrom s n s.size 0 [] ∧ s.size ≤ i + fuel ∧ l.length ≤ i ∧ i ≤ s.size) (fun p2 wr => s.size - (intOf p2).toNat)
  case atStart => exact ⟨0, s.size, [], rfl, HL.out, Below.refl _ _, rfl, by omega, by simp, by omega⟩
  case round =>
    obtain ⟨i, fuel, l, rfl, hlr, hbw, hu, hfu, hli, hi⟩ := hrel
    have hLr := Aside0.mk hlr
    have HBW := Aside0.mk hbw
    have hbr : base ≤ wr.heap.size := by have := hbw.size; omega
    obtain ⟨A2, co2, c0r, c2r, _⟩ := hlr.cells
    clear hlr hbw
    by_cases hp : i < s.size
    · have hp' : (i : Int) < (s.size : Int) := by omega
      obtain ⟨f, rfl⟩ : ∃ f, fuel = f + 1 := ⟨fuel - 1, by omega⟩
      simp only [readFrom, if_pos hp] at hu
      have hx0 : (((s[i]'hp).toNat : Nat) : Int) = bn s i := by unfold bn; rw [dif_pos hp]
      have hwb := wlen_bounds s i hp
      have HK := Aside0.mk hK
      clear hK HL
      generalize hbn : bn s i = x0 at *
      by_cases h32 : x0 = 32
      · subst h32
        rw [if_pos (Or.inl rfl)] at hu
        have HU := Aside0.mk hu
        clear hu hwb hbn
        go_wp2
        go_roundw
        case rel => exact ⟨i + 1, f, l, by simp, hLr.out, HBW.out, HU.out, by omega, by omega, by omega⟩
        case measure => simp only [intOf]; omega
      · by_cases h9 : x0 = 9
        · subst h9
          rw [if_pos (Or.inr rfl)] at hu
          have HU := Aside0.mk hu
          clear hu hwb hbn
          go_wp2
          go_roundw
          case rel => exact ⟨i + 1, f, l, by simp, hLr.out, HBW.out, HU.out, by omega, by omega, by omega⟩
          case measure => simp only [intOf]; omega
        · rw [if_neg (by omega)] at hu
          by_cases h35 : x0 = 35
          · subst h35
            rw [if_pos rfl] at hu
            have hK := HK.out
            rw [← hu] at hK
            simp only at hK
            clear hu hwb hbn HK
            by_cases hl0 : l.length = 0
            · rw [if_pos hl0] at hK
              have hl0' : ¬ (0 : Int) < (l.length : Int) := by omega
              go_wp2
              go_end0
              exact ⟨by rw [hK]; exact ⟨rfl, hLr.out⟩, HBW.out⟩
            · rw [if_neg hl0] at hK
              have hl0' : (0 : Int) < (l.length : Int) := by omega
              go_wp2_with (go_at_call 35; refine (token_calls base b s n l 5 ⟨#[]⟩ (s.size : Int) _ hLr.out hbr (by omega)).mono ?_; rintro e W2 ⟨rfl, hl2, hb2⟩)
              change bodyPost Tryd.prog Tryd.f19 (fun r w' => ReadEnd base b s n K r w' ∧ Below base w w') Exit.normal _ _
              go_end0
              exact ⟨by rw [hK]; exact ⟨rfl, hl2⟩, HBW.out.trans hb2⟩
          · rw [if_neg h35] at hu
            by_cases h44 : x0 = 44
            · subst h44
              rw [if_pos rfl] at hu
              have HU := Aside0.mk hu
              clear hu hwb hbn
              go_wp2_with (go_at_call 35; refine (token_calls base b s n l 3 ⟨#[]⟩ (i : Int) _ hLr.out hbr (by omega)).mono ?_; rintro e W2 ⟨rfl, hl2, hb2⟩)
              go_roundw
              case rel => exact ⟨i + 1, f, _, by simp, hl2, HBW.out.trans hb2, HU.out, by omega, by simp; omega, by omega⟩
              case measure => simp only [intOf]; omega
            · rw [if_neg h44] at hu
              by_cases h33 : x0 = 33
              · subst h33
                rw [if_pos rfl] at hu
                have HU := Aside0.mk hu
                clear hu hwb hbn
                go_wp2_with (go_at_call 35; refine (token_calls base b s n l 4 ⟨#[]⟩ (i : Int) _ hLr.out hbr (by omega)).mono ?_; rintro e W2 ⟨rfl, hl2, hb2⟩)
                go_roundw
                case rel => exact ⟨i + 1, f, _, by simp, hl2, HBW.out.trans hb2, HU.out, by omega, by simp; omega, by omega⟩
                case measure => simp only [intOf]; omega
              · rw [if_neg h33] at hu
                by_cases h34 : x0 = 34
                · subst h34
                  rw [if_pos rfl] at hu
                  clear hwb hbn
                  have htc := text_calls base b s n l i wr hLr.out hbr hs (by omega) (by omega)
                  cases htx : textF s i with
                  | ok te =>
                    obtain ⟨t, e⟩ := te
                    rw [htx] at hu htc
                    obtain ⟨he1, he2⟩ := textFrom_ok htx
                    have HU := Aside0.mk hu
                    clear hu htx
                    go_wp2_with (go_at_call 36; refine htc.mono ?_; rintro r W2 ⟨⟨rfl, hl2⟩, hb2⟩)
                    go_roundw
                    case rel => exact ⟨e, f, _, rfl, hl2, HBW.out.trans hb2, HU.out, by omega, by simp; omega, he2⟩
                    case measure => simp only [intOf]; omega
                  | error j =>
                    rw [htx] at hu htc
                    have hK := HK.out
                    rw [← hu] at hK
                    simp only at hK
                    clear hu htx HK
                    go_wp2_with (go_at_call 36; refine htc.mono ?_; rintro r W2 ⟨rfl, hb2⟩)
                    exact ⟨rfl, by rw [hK]; rfl, HBW.out.trans hb2⟩
                · rw [if_neg h34] at hu
                  obtain ⟨hw1, hw2⟩ := hwb ⟨h32, h9, h44, h33, h34, h35⟩
                  have hsl : (s.size : Int) = s.size := rfl
                  have hext : (s.extract i s.size).size ≤ 65536 := by simp; omega
                  have HU := Aside0.mk hu
                  clear hu hwb
                  have hsa : ∀ W : World, _ := fun W => sepAny_calls (s.extract i s.size) W hext
                  by_cases hneg : Lib.indexAny (s.extract i s.size).data.toList sep6.data.toList < 0
                  · have hwl : wlen s i = s.size - i := by unfold wlen; rw [if_pos hneg]
                    have hwi : i + wlen s i = s.size := by omega
                    rw [hwi] at HU
                    generalize Lib.indexAny (s.extract i s.size).data.toList sep6.data.toList = ix at *
                    have hsub : (s.size : Int) - (i : Int) = ((s.size - i : Nat) : Int) := by omega
                    go_wp2_with (first | (go_at_call 37; refine (hsa _).mono ?_; rintro r W1 ⟨rfl, hb1⟩; obtain ⟨hl1, hB1, hbr1, c0w⟩ := line_after hLr.out HBW.out hbr hb1; have HL1 := Aside0.mk hl1; have HB1 := Aside0.mk hB1; clear hb1 hl1 hB1) | (go_at_call 35; refine (token_calls base b s n l 1 (s.extract i s.size) (i : Int) _ HL1.out hbr1 (by omega)).mono ?_; rintro e W2 ⟨rfl, hl2, hb2⟩))
                    go_roundw
                    case rel => exact ⟨s.size, f, _, by congr 1; omega, hl2, HB1.out.trans hb2, HU.out, by omega, by simp; omega, by omega⟩
                    case measure => simp only [intOf]; omega
                  · have hwl : wlen s i = (Lib.indexAny (s.extract i s.size).data.toList sep6.data.toList).toNat := by unfold wlen; rw [if_neg hneg]
                    obtain ⟨m, hm⟩ : ∃ m : Nat, Lib.indexAny (s.extract i s.size).data.toList sep6.data.toList = (m : Int) := ⟨(Lib.indexAny (s.extract i s.size).data.toList sep6.data.toList).toNat, by omega⟩
                    rw [hm, Int.toNat_natCast] at hwl
                    rw [hwl] at HU hw1 hw2
                    simp only [hm] at hsa
                    clear hneg hm hwl
                    have hmn : ¬ (m : Int) < 0 := by omega
                    have him : (i : Int) + (m : Int) ≤ (s.size : Int) := by omega
                    go_wp2_with (first | (go_at_call 37; refine (hsa _).mono ?_; rintro r W1 ⟨rfl, hb1⟩; obtain ⟨hl1, hB1, hbr1, c0w⟩ := line_after hLr.out HBW.out hbr hb1; have HL1 := Aside0.mk hl1; have HB1 := Aside0.mk hB1; clear hb1 hl1 hB1) | (go_at_call 35; refine (token_calls base b s n l 1 (s.extract i (i + m)) (i : Int) _ HL1.out hbr1 (by omega)).mono ?_; rintro e W2 ⟨rfl, hl2, hb2⟩))
                    go_roundw
                    case rel => exact ⟨i + m, f, _, by simp, hl2, HB1.out.trans hb2, HU.out, by omega, by simp; omega, by omega⟩
                    case measure => simp only [intOf]; omega
    · have hp' : ¬ (i : Int) < (s.size : Int) := by omega
      have hend : readFrom s n fuel i l = .ok l := by cases fuel <;> simp [readFrom, hp]
      rw [← hu, hend] at hK
      simp only at hK
      clear hu hend
      by_cases hl0 : l.length = 0
      · rw [if_pos hl0] at hK
        have hl0' : ¬ (0 : Int) < (l.length : Int) := by omega
        go_wp2
        go_end0
        exact ⟨by rw [hK]; exact ⟨rfl, hLr.out⟩, HBW.out⟩
      · rw [if_neg hl0] at hK
        have hl0' : (0 : Int) < (l.length : Int) := by omega
        go_wp2_with (go_at_call 35; refine (token_calls base b s n l 5 ⟨#[]⟩ (s.size : Int) _ hLr.out hbr (by omega)).mono ?_; rintro e W2 ⟨rfl, hl2, hb2⟩)
        change bodyPost Tryd.prog Tryd.f19 (fun r w' => ReadEnd base b s n K r w' ∧ Below base w w') Exit.normal _ _
        go_end0
        exact ⟨by rw [hK]; exact ⟨rfl, hl2⟩, HBW.out.trans hb2⟩
end Go.Proofs.YtfndanccnjggfaaDoor.Q
/- What is proved: what the iterator over a text's lines tells, a round that panics let through. -/
namespace Go.Proofs.YtfndanccnjggfaaDoor.Q
open Go.RowKit Go.Proofs.YtfndanccnjggfaaDoorW.PrintWords Go.Proofs.YtfndanccnjggfaaDoorW.PrintLast Go.Proofs.YtfndanccnjggfaaDoorW.PrintMore
set_option linter.unusedVariables false
set_option linter.unusedSimpArgs false
attribute [local go_sem] Oper.semAt_some
def trimCR (s : ByteArray) : ByteArray := ⟨(Lib.trimSuffix s.data.toList (⟨#[13]⟩ : ByteArray).data.toList).toArray⟩
/-- The first line, and what stands behind it. -/
def lineOf (s : ByteArray) : ByteArray := if (cutA s 10).2.2 = true then trimCR (cutA s 10).1 else (cutA s 10).1
def restOf (s : ByteArray) : ByteArray := (cutA s 10).2.1
def Boxs (B : Nat) (s : ByteArray) (W : World) : Prop := W.heap[B]? = some (.cells #[.string s] 9 (0, 0))
theorem restOf_lt (s : ByteArray) (h : s.size ≠ 0) : (restOf s).size < s.size := by
  unfold restOf cutA
  split
  · show (0 : Nat) < _
    omega
  · simp
    omega
set_option maxHeartbeats 4000000 in
set_option maxRecDepth 1000000 in
theorem lines1_in (m l Bn : Nat) (s0 : ByteArray) (hs0 : s0.size ≤ 65536) (n0 : Nat) (P : Nat → ByteArray → World → Prop) (Px : List PanicEntry → World → Prop)
    (hP1 : ∀ n s W W', P n s W → Boxs Bn s W → Below W.heap.size W W' → P n s W')
    (hP2 : ∀ n s s' W, P n s W → Boxs Bn s' W → P n s (W.setCell ⟨Bn, 0, none⟩ (.string s)))
    (hY : ∀ n s W, s.size ≠ 0 → s.size ≤ 65536 → n ≤ 65536 → P n s W → Boxs Bn s W → YieldAt Fence.wide m Tryd.prog l #[.int .i64 (n : Int), .string (lineOf s)] W fun e W' =>
      (e = .returned (.bool true) ∧ P (n + 1) (restOf s) W' ∧ Boxs Bn s W') ∨ (∃ ch, e = .panicked ch ∧ Px ch W'))
    (W : World) (hB : Boxs Bn s0 W) (h0 : P 1 s0 W) :
    CallsIn Fence.wide (m + 1) Tryd.prog 30 #[.func (.yield l) #[] #[], .pointer (some ⟨Bn, 0, none⟩)] W fun e W' => (e = .returned (.tuple #[]) ∧ ∃ n, P n ⟨#[]⟩ W') ∨ (∃ ch, e = .panicked ch ∧ Px ch W') := by
  refine callsIn_of_wp Tryd.func30 rfl trivial ?_ rfl
  simp only [Tryd.ntmps30, List.size_toArray, List.length_cons, List.length_nil, Nat.reduceAdd, Nat.reduceSub, Array.replicate_succ, Array.replicate_zero, List.push_toArray, List.append_toArray, List.nil_append, List.cons_append]
  have HP1 := Aside0.mk hP1
  have HP2 := Aside0.mk hP2
  have HY := Aside0.mk hY
  clear hP1 hP2 hY
  gi_wp2
  gi_loopw [3] (fun p3 wr => ∃ (n : Nat) (s : ByteArray), p3 = .int .i64 (n : Int) ∧ P n s wr ∧ Boxs Bn s wr ∧ s.size ≤ 65536 ∧ n + s.size ≤ 65537) (fun p3 wr => (match wr.cell? ⟨Bn, 0, none⟩ with | some (.string s) => s.size | _ => 0))
  case atStart => exact ⟨1, s0, by simp, h0, hB, hs0, by omega⟩
  case round =>
    obtain ⟨n, s, rfl, hP, hBx, hs, hn⟩ := hrel
    have c0 : wr.cell? ⟨Bn, 0, none⟩ = some (.string s) := blk_cell hBx 0
    have f0 : wr.frozen? ⟨Bn, 0, none⟩ = false := blk_frozen hBx 0
    have HBx := Aside0.mk hBx
    have HPx := Aside0.mk hP
    clear hBx hP
    by_cases hz : s.size = 0
    · obtain rfl := size0 s hz
      gi_wp2
      go_end0
      exact .inl ⟨rfl, n, HPx.out⟩
    · have he : s.toList.isEmpty = false := by
        rw [Lib.toList_data]
        rw [Lib.size_eq] at hz
        cases hdl : s.data.toList with
        | nil => rw [hdl] at hz; exact absurd rfl hz
        | cons a l => rfl
      have hrl := restOf_lt s hz
      have hcut := fun W => cut1_calls s 10 W (by omega)
      have hlo : lineOf s = if (cutA s 10).2.2 = true then trimCR (cutA s 10).1 else (cutA s 10).1 := rfl
      have hro : restOf s = (cutA s 10).2.1 := rfl
      have hsz1 : (cutA s 10).1.size ≤ s.size := by
        unfold cutA
        split
        · exact Nat.le_refl _
        · simp
          exact Nat.min_le_right _ _
      generalize cutA s 10 = t at *
      obtain ⟨a, rest, ok⟩ := t
      simp only at hlo hro hcut hsz1
      have hstep : ∀ W1 : World, Below wr.heap.size wr W1 → YieldAt Fence.wide m Tryd.prog l #[.int .i64 (n : Int), .string (lineOf s)] W1 fun e W' =>
          (e = .returned (.bool true) ∧ P (n + 1) (restOf s) W' ∧ Boxs Bn s W') ∨ (∃ ch, e = .panicked ch ∧ Px ch W') :=
        fun W1 hb => HY.out n s W1 hz hs (by omega) (HP1.out n s _ _ HPx.out HBx.out hb) (blk_below HBx.out hb)
      have HS := Aside0.mk hstep
      clear hstep
      cases ok with
      | true =>
        rw [if_pos rfl] at hlo
        gi_wp2
        refine ⟨trivial, CallsIn.mono (callsIn_wide.2 (hcut _)) ?_⟩
        rintro e W1 ⟨rfl, hb1⟩
        gi_wp2
        refine ⟨trivial, CallsIn.mono (callsIn_wide.2 (Tryd.strings_TrimSuffix a ⟨#[13]⟩ _ (by omega))) ?_⟩
        rintro e W2 ⟨rfl, hw2⟩
        rw [hw2]
        obtain ⟨fn, tm, asg, bd, hy, hR⟩ := HS.out W1 hb1
        rw [hlo] at hy
        unfold trimCR at hy
        gi_wp2
        refine hR.mono ?_
        rintro e W3 (⟨rfl, hP3, hB3⟩ | ⟨ch, rfl, hPx⟩)
        · have c3 : W3.cell? ⟨Bn, 0, none⟩ = some (.string s) := blk_cell hB3 0
          have f3 : W3.frozen? ⟨Bn, 0, none⟩ = false := blk_frozen hB3 0
          have HP3 := Aside0.mk (HP2.out (n + 1) (restOf s) s W3 hP3 hB3)
          have HB3 := Aside0.mk (blk_put hB3 0 (.string (restOf s)) rfl)
          rw [hro] at HP3 HB3 hrl
          clear hP3 hB3
          gi_wp2
          go_roundw
          case rel => exact ⟨n + 1, rest, by simp, HP3.out, HB3.out, by omega, by omega⟩
          case measure =>
            have e1 : (W3.setCell ⟨Bn, 0, none⟩ (.string rest)).cell? ⟨Bn, 0, none⟩ = some (.string rest) := blk_cell HB3.out 0
            simp only [e1, c0]
            exact hrl
        · gi_wp2
          exact ⟨rfl, .inr ⟨ch, rfl, hPx⟩⟩
      | false =>
        rw [if_neg (by decide)] at hlo
        gi_wp2
        refine ⟨trivial, CallsIn.mono (callsIn_wide.2 (hcut _)) ?_⟩
        rintro e W1 ⟨rfl, hb1⟩
        obtain ⟨fn, tm, asg, bd, hy, hR⟩ := HS.out W1 hb1
        rw [hlo] at hy
        gi_wp2
        refine hR.mono ?_
        rintro e W3 (⟨rfl, hP3, hB3⟩ | ⟨ch, rfl, hPx⟩)
        · have c3 : W3.cell? ⟨Bn, 0, none⟩ = some (.string s) := blk_cell hB3 0
          have f3 : W3.frozen? ⟨Bn, 0, none⟩ = false := blk_frozen hB3 0
          have HP3 := Aside0.mk (HP2.out (n + 1) (restOf s) s W3 hP3 hB3)
          have HB3 := Aside0.mk (blk_put hB3 0 (.string (restOf s)) rfl)
          rw [hro] at HP3 HB3 hrl
          clear hP3 hB3
          gi_wp2
          go_roundw
          case rel => exact ⟨n + 1, rest, by simp, HP3.out, HB3.out, by omega, by omega⟩
          case measure =>
            have e1 : (W3.setCell ⟨Bn, 0, none⟩ (.string rest)).cell? ⟨Bn, 0, none⟩ = some (.string rest) := blk_cell HB3.out 0
            simp only [e1, c0]
            exact hrl
        · gi_wp2
          exact ⟨rfl, .inr ⟨ch, rfl, hPx⟩⟩
end Go.Proofs.YtfndanccnjggfaaDoor.Q
/- What is proved: what the deferred closure of lex.Lex does: a fault that was raised becomes the result. -/
namespace Go.Proofs.YtfndanccnjggfaaDoor.Q
open Go.RowKit Go.Proofs.YtfndanccnjggfaaDoorW.PrintWords Go.Proofs.YtfndanccnjggfaaDoorW.PrintLast Go.Proofs.YtfndanccnjggfaaDoorW.PrintMore
set_option linter.unusedVariables false
set_option linter.unusedSimpArgs false
theorem lines_calls (s : ByteArray) (w : World) :
    Calls Tryd.prog 17 #[.string s] w fun e w' => e = .returned (.func (.func 30) #[] #[.pointer (some ⟨w.heap.size, 0, none⟩)]) ∧ w' = w.alloc (.cells #[.string s] 9) := by
  have hmf : ∀ (fn : Fn) (first cap : Array Value) (w : World), (Instr.makeFunc fn first cap).run Tryd.prog w = .ok (.func fn first cap) w := fun _ _ _ _ => rfl
  go_enter Tryd.func17, Tryd.ntmps17
  go_wp2
  go_ret
  exact ⟨rfl, rfl⟩
set_option maxHeartbeats 4000000 in
set_option maxRecDepth 1000000 in
theorem lexd_idle (n : Nat) (p q : Addr) (w : World) :
    CallsDIn Fence.wide n Tryd.prog 16 #[.pointer (some p), .pointer (some q)] .returning w fun e u' w' => e = .returned (.tuple #[]) ∧ u' = .returning ∧ w' = w := by
  refine callsDIn_of_wpSIn Tryd.func16 rfl trivial fun c₀ cs hu => ?_
  simp only [Tryd.ntmps16, List.size_toArray, List.length_cons, List.length_nil, Nat.reduceAdd, Nat.reduceSub, Array.replicate_succ, Array.replicate_zero, List.push_toArray, List.append_toArray, List.nil_append, List.cons_append]
  apply wpSIn_seq
  apply wpSIn_region
  simp [wpOpsSIn, go_sem, recoverD, hu, Tryd.ntmps16, Exit.thenS]
  refine wpSIn_of_wpIn rfl ?_
  gi_wp2
  cases c₀
  simp_all [bodyPostS, results, Tryd.results16]
set_option maxHeartbeats 4000000 in
set_option maxRecDepth 1000000 in
theorem lexd_panic (n : Nat) (B : Nat) (v : Value) (e k i : Int) (older : List PanicEntry) (w : World) (hl : w.heap[B]? = some (.cells #[v] 23 (0, 0))) (hf : w.heap[B + 1]? = some (.cells #[.int .i64 0, .int .i64 0, .int .i64 0] 26 (0, 0))) :
    CallsDIn Fence.wide n Tryd.prog 16 #[.pointer (some ⟨B, 0, none⟩), .pointer (some ⟨B + 1, 0, none⟩)] (.panicking (flt e k i :: older)) w fun r u' w' =>
      r = .returned (.tuple #[]) ∧ u' = .panicking ({ flt e k i with recovered := true } :: older) ∧ w'.heap[B]? = some (.cells #[.slice none 0 0] 23 (0, 0)) ∧ w'.heap[B + 1]? = some (.cells #[.int .i64 e, .int .i64 k, .int .i64 i] 26 (0, 0)) ∧ Below B w w' := by
  refine callsDIn_of_wpSIn Tryd.func16 rfl trivial fun c₀ cs hu => ?_
  simp only [Tryd.ntmps16, List.size_toArray, List.length_cons, List.length_nil, Nat.reduceAdd, Nat.reduceSub, Array.replicate_succ, Array.replicate_zero, List.push_toArray, List.append_toArray, List.nil_append, List.cons_append]
  apply wpSIn_seq
  apply wpSIn_region
  simp [wpOpsSIn, go_sem, recoverD, hu, flt, Tryd.ntmps16, Exit.thenS]
  have hta : ∀ (x : Value) (W : World), (Instr.typeAssert (.iface 26 x) 20 26 true).run Tryd.prog W = .ok (.tuple #[x, .bool true]) W := fun x W => by
    rfl
  have c1 := blk_cell hl 0
  have f1 := blk_frozen hl 0
  have c20 := blk_cell hf 0
  have c21 := blk_cell hf 1
  have c22 := blk_cell hf 2
  have f20 := blk_frozen hf 0
  have f21 := blk_frozen hf 1
  have f22 := blk_frozen hf 2
  refine wpSIn_of_wpIn rfl ?_
  gi_wp2
  have hn := blk_new w (.cells #[.int .i64 e, .int .i64 k, .int .i64 i] 26)
  have hl1 := blk_alloc hl (.cells #[.int .i64 e, .int .i64 k, .int .i64 i] 26)
  have hf1 := blk_alloc hf (.cells #[.int .i64 e, .int .i64 k, .int .i64 i] 26)
  have hB1 : Below B w (w.alloc (.cells #[.int .i64 e, .int .i64 k, .int .i64 i] 26)) := (Below.refl B w).alloc (by have := blk_lt hl; omega) _
  have hlt := blk_lt hf
  generalize w.alloc (.cells #[.int .i64 e, .int .i64 k, .int .i64 i] 26) = W1 at *
  have d1 : W1.cell? ⟨B, 0, none⟩ = some v := blk_cell hl1 0
  have g1 := blk_frozen hl1 0
  have d20 : W1.cell? ⟨B + 1, 0, none⟩ = some (.int .i64 0) := blk_cell hf1 0
  have d21 : W1.cell? ⟨B + 1, 1, none⟩ = some (.int .i64 0) := blk_cell hf1 1
  have d22 : W1.cell? ⟨B + 1, 2, none⟩ = some (.int .i64 0) := blk_cell hf1 2
  have g20 := blk_frozen hf1 0
  have g21 := blk_frozen hf1 1
  have g22 := blk_frozen hf1 2
  have e0 : W1.cell? ⟨w.heap.size, 0, none⟩ = some (.int .i64 e) := blk_cell hn 0
  have e1 : W1.cell? ⟨w.heap.size, 1, none⟩ = some (.int .i64 k) := blk_cell hn 1
  have e2 : W1.cell? ⟨w.heap.size, 2, none⟩ = some (.int .i64 i) := blk_cell hn 2
  have n1 : ¬ w.heap.size = B := by omega
  have n2 : ¬ w.heap.size = B + 1 := by omega
  clear c1 f1 c20 c21 c22 f20 f21 f22
  gi_region
  all_goals (
    have h1 := blk_put hl1 0 (.slice none 0 0) rfl
    have h2 := blk_far h1 (p := ⟨B + 1, 0, none⟩) (by simp) (.int .i64 e)
    have h3 := blk_far h2 (p := ⟨B + 1, 1, none⟩) (by simp) (.int .i64 k)
    have h4 := blk_far h3 (p := ⟨B + 1, 2, none⟩) (by simp) (.int .i64 i)
    have k1 := blk_far hf1 (p := ⟨B, 0, none⟩) (by simp) (.slice none 0 0)
    have k2 := blk_put k1 0 (.int .i64 e) rfl
    have k3 := blk_put k2 1 (.int .i64 k) rfl
    have k4 := blk_put k3 2 (.int .i64 i) rfl
    have hb := below_drew1 ((((hB1.setCell (p := ⟨B, 0, none⟩) (Nat.le_refl _) (.slice none 0 0)).setCell (p := ⟨B + 1, 0, none⟩) (Nat.le_succ _) (.int .i64 e)).setCell (p := ⟨B + 1, 1, none⟩) (Nat.le_succ _) (.int .i64 k)).setCell (p := ⟨B + 1, 2, none⟩) (Nat.le_succ _) (.int .i64 i))
    exact ⟨rfl, _, rfl, _, results_none rfl _ _ _, rfl, rfl, h4, k4, hb⟩)
end Go.Proofs.YtfndanccnjggfaaDoor.Q
/- What is proved: a region that draws its order, walked outside a round, goes within one as well. -/
namespace Go.Proofs.YtfndanccnjggfaaDoorW.PrintLast
open Go Go.RowKit
variable {P : Program} {ops : Array Oper} {Q : Exit → Act → World → Prop} {md : Region.Mode} {l n : Nat}
theorem rowsIn_wide {row : String} {args : Array Value} {w : World} {R : Value → World → Prop} (h : Rows P row args w R) : RowsIn (Fence.wide.inRound l) n P row args w R :=
  fun c cs _ => let ⟨v, w', r, s⟩ := h c cs; ⟨v, w', r, stepsIn_wide.2 s⟩
theorem opIn_round {o : Oper} {a : Act} {w : World} {K : Act → World → Prop} (hd : ∀ c, o.op ≠ .defer c) (h : o.wp P a w K Q) : o.wpIn (Fence.wide.inRound l) n P a w K Q := by
  refine ⟨fun _ _ => trivial, ?_⟩
  rw [show (Fence.wide.inRound l).round = some l from rfl, Oper.semAt_eq _ _ _ hd]
  unfold Oper.wp at h
  generalize (execOp a.eval o).run P w = r at *
  cases r with
  | ok x w' =>
    cases x with
    | value v => exact h
    | skip => exact h
    | defer d => exact h
    | enter f args => exact ⟨fun hn => by simp [Fence.inRound, Fence.wide] at hn, CallsIn.inRound l (callsIn_wide.2 h)⟩
    | row row args => exact ⟨fun hn => by simp [Fence.inRound, Fence.wide] at hn, rowsIn_wide h⟩
    | round a b c d e => exact h.elim
    | _ => exact h.elim
  | halt x w' =>
    cases x <;> exact h
theorem anyIn_round (hops : ∀ (i : Nat) (o : Oper), ops[i]? = some o → ∀ c, o.op ≠ .defer c) (hQ : ¬ LetsOut Q) : ∀ (fuel : Nat) (listed : Array Bool) (a : Act) (w : World),
    wpAny P md ops Q fuel listed a w → wpAnyIn (Fence.wide.inRound l) n P md ops Q fuel listed a w := by
  intro fuel
  induction fuel with
  | zero => exact fun _ _ _ h => h
  | succ fuel ih =>
    intro listed a w h
    refine ⟨h.1, fun i hi => ?_⟩
    have h2 := h.2 i hi
    unfold wpOp at h2
    unfold wpOpIn
    cases ho : ops[i]? with
    | none => rw [ho] at h2; exact ih _ _ _ h2
    | some o =>
      rw [ho] at h2
      simp only at h2 ⊢
      split
      · rename_i hw
        rw [if_pos hw] at h2
        rcases h2 with h2 | h2
        · exact opIn_round (hops i o ho) (Oper.wp_mono (fun a w h => ih _ _ _ h) h2)
        · exact absurd h2.2 hQ
      · rename_i hw
        rw [if_neg hw] at h2
        exact ⟨fun _ _ => trivial, ih _ _ _ h2⟩
theorem hops_of (h : ops.all (fun o => match o.op with | .defer _ => false | _ => true) = true) : ∀ (i : Nat) (o : Oper), ops[i]? = some o → ∀ c, o.op ≠ .defer c := by
  intro i o ho c hc
  rw [Array.all_eq_true] at h
  obtain ⟨hi, rfl⟩ := Array.getElem?_eq_some_iff.1 ho
  have := h i hi
  rw [hc] at this
  cases this
theorem startIn_ {S : World → Prop} {ds : List Nat} {id k : Nat} {a : Act} {w : World} (lst : Array Bool) (hops : ops.all (fun o => match o.op with | .defer _ => false | _ => true) = true) (hQ : ¬ LetsOut Q)
    (hm : P.follows .mixedOrders = true) (hn : ops.size = k) (hl : Array.replicate k false = lst) (hS : S w.drew)
    (h : S w.drew → wpAnyLast P .any ops Q S ds k lst a w.drew) : (Code.region id ops true).wpIn (Fence.wide.inRound l) n P Q a w := by
  subst hn
  subst hl
  exact wpIn_region_any hm (anyIn_round (hops_of hops) hQ _ _ _ _ (wpAny_of_last _ _ _ _ (h hS)))
end Go.Proofs.YtfndanccnjggfaaDoorW.PrintLast
/- What is proved: what lex.Lex makes of any text. -/
namespace Go.Proofs.YtfndanccnjggfaaDoor.Q
open Go.RowKit Go.Proofs.YtfndanccnjggfaaDoorW.PrintWords Go.Proofs.YtfndanccnjggfaaDoorW.PrintLast Go.Proofs.YtfndanccnjggfaaDoorW.PrintMore
set_option linter.unusedVariables false
set_option linter.unusedSimpArgs false
attribute [local go_sem] Oper.semAt_some
def lexFrom : Nat → ByteArray → Nat → List S36 → Except (Int × Int × Int) (List S36)
  | 0, _, _, acc => .ok acc
  | f + 1, s, n, acc =>
    if s.size = 0 then .ok acc
    else match looksAt (lineOf s) with
      | some (e, i) => .error (e, (n : Int), i)
      | none => match readF (lineOf s) (n : Int) with
        | .error j => .error (151, (n : Int), (j : Int))
        | .ok l => lexFrom f (restOf s) (n + 1) (acc ++ l)
def lexF (s : ByteArray) : Except (Int × Int × Int) (List S36) := lexFrom (s.size + 1) s 1 []
theorem readFrom_len {s : ByteArray} {n : Int} : ∀ {f i : Nat} {l l' : List S36}, i ≤ s.size → l.length ≤ i → readFrom s n f i l = .ok l' → l'.length ≤ s.size
  | 0, i, l, l', hi, hl, h => by simp only [readFrom, Except.ok.injEq] at h; subst h; omega
  | f + 1, i, l, l', hi, hl, h => by
    unfold readFrom at h
    split at h
    · rename_i hp
      split at h
      · exact readFrom_len (by omega) (by omega) h
      · split at h
        · simp only [Except.ok.injEq] at h; subst h; omega
        · split at h
          · exact readFrom_len (i := i + 1) (by omega) (by simp; omega) h
          · split at h
            · exact readFrom_len (i := i + 1) (by omega) (by simp; omega) h
            · split at h
              · split at h
                · rename_i t e ht
                  obtain ⟨h1, h2⟩ := textFrom_ok ht
                  exact readFrom_len (i := e) h2 (by simp; omega) h
                · cases h
              · rename_i h1 h2 h3 h4 h5
                obtain ⟨h6, h7⟩ := wlen_bounds s i hp (by omega)
                exact readFrom_len (i := i + wlen s i) h7 (by simp; omega) h
    · simp only [Except.ok.injEq] at h; subst h; omega
theorem readF_len {s : ByteArray} {n : Int} {l : List S36} (h : readF s n = .ok l) : l.length ≤ s.size + 1 := by
  unfold readF at h
  split at h
  · rename_i l0 h0
    have := readFrom_len (by omega) (by simp) h0
    simp only [Except.ok.injEq] at h
    subst h
    split
    · omega
    · simp; omega
  · cases h
theorem lineOf_size (s : ByteArray) : (lineOf s).size ≤ s.size := by
  have h1 : (cutA s 10).1.size ≤ s.size := by
    unfold cutA
    split
    · exact Nat.le_refl _
    · simp
      exact Nat.min_le_right _ _
  unfold lineOf
  split
  · have h2 : (trimCR (cutA s 10).1).size ≤ (cutA s 10).1.size := by
      unfold trimCR Lib.trimSuffix
      rw [Lib.size_eq, Lib.size_eq]
      simp only
      split
      · simp
      · simp
    omega
  · exact h1
end Go.Proofs.YtfndanccnjggfaaDoor.Q
/- What is said: walks of the body of one function alone, so that it is known whose frame it is (a loop over a function that may be left by a panic asks it). -/
namespace Go
variable {n : Nat} {P : Program}
def Code.wpK (g0 : FuncId) (n : Nat) (P : Program) (c : Code) (Q : Exit → Act → World → Prop) (a : Act) (w : World) : Prop :=
  ∀ (b : Frame) (k : List Item) (cs : List Frame), b.roundOf = none → b.fn = g0 →
    ∃ e a' w', Q e a' w' ∧ ArrivesIn (Machine.fenced P Fence.wide) P (lone (b.atR a (.code c :: k)) cs w) b k cs e a' w'
variable {g0 : FuncId} {Q : Exit → Act → World → Prop} {a : Act} {w : World}
theorem wpK_of {c : Code} (h : c.wpIn Fence.wide n P Q a w) : c.wpK g0 n P Q a w := fun b k cs hro _ => h b k cs hro trivial (room_wide _)
def rangePostK (g0 : FuncId) (n : Nat) (P : Program) (l : Nat) (Q : Exit → Act → World → Prop) (a' : Act) : Ending → World → Prop
  | .returned _, w₃ => ∃ jump w₄, (Instr.endLoop l).run P w₃ = .ok jump w₄ ∧
      (match jump with
       | none => Q .normal a' w₄
       | some c => c.wpK g0 n P Q a' w₄)
  | .panicked chain, w₃ => Q (.panic chain) a' w₃
  | .outgrown, _ => LetsOut Q
theorem wpK_seq {x y : Code} (h : x.wpK g0 n P (Exit.then (y.wpK g0 n P Q) Q) a w) : (Code.seq x y).wpK g0 n P Q a w := by
  intro b k cs hro hg0; have hb : Fence.wide.fn b.fn := trivial; have hr : Fence.wide.room (cs.length + 1 + n) := room_wide _
  have h0 : (lone (b.atR a (.code (.seq x y) :: k)) cs w).fenced P Fence.wide := fenced_calm hb hr rfl
  obtain ⟨e, a₁, w₁, hq, harr⟩ := h b (.code y :: k) cs hro hg0
  cases e with
  | normal =>
    obtain ⟨e₂, a₂, w₂, hq₂, harr₂⟩ := hq b k cs hro hg0
    exact ⟨e₂, a₂, w₂, hq₂, .of_steps (.head h0 stepR_seq harr) harr₂⟩
  | exit id => exact ⟨_, a₁, w₁, hq, .of_steps (.one h0 stepR_seq) (.pass (x := .code y) rfl (fun _ _ => .inl (by simp)) harr)⟩
  | goto l => exact ⟨_, a₁, w₁, hq, .of_steps (.one h0 stepR_seq) (.pass (x := .code y) rfl (fun _ _ => .inl (by simp)) harr)⟩
  | ret => exact ⟨_, a₁, w₁, hq, .of_steps (.one h0 stepR_seq) (.pass (x := .code y) rfl (fun _ _ => .inl (by simp)) harr)⟩
  | panic ch => exact ⟨_, a₁, w₁, hq, .of_steps (.one h0 stepR_seq) (.pass (x := .code y) rfl (fun _ _ => .inl (by simp)) harr)⟩
  | outgrown => exact ⟨_, a₁, w₁, hq, .of_steps (.one h0 stepR_seq) (.pass (x := .code y) rfl (fun _ _ => .inl (by simp)) harr)⟩
theorem wpK_block {id : Nat} {c : Code} (h : c.wpK g0 n P (Exit.inBlock id Q) a w) : (Code.block id c).wpK g0 n P Q a w := by
  intro b k cs hro hg0; have hb : Fence.wide.fn b.fn := trivial; have hr : Fence.wide.room (cs.length + 1 + n) := room_wide _
  have h0 : (lone (b.atR a (.code (.block id c) :: k)) cs w).fenced P Fence.wide := fenced_calm hb hr rfl
  obtain ⟨e, a₁, w₁, hq, harr⟩ := h b (.inBlock id :: k) cs hro hg0
  cases e with
  | normal => exact ⟨.normal, a₁, w₁, hq, .head h0 stepR_block (StepsIn.trans harr (.one (fenced_calm hb hr rfl) stepR_inBlock))⟩
  | exit id' =>
    by_cases hid : id' = id
    · simp only [Exit.inBlock, hid, if_true] at hq
      exact ⟨.normal, a₁, w₁, hq, .head h0 stepR_block (harr.1 k (by simp [exitTo, hid]))⟩
    · simp only [Exit.inBlock, hid, if_false] at hq
      have this : (id == id') = false := by simp; exact fun h => hid h.symm
      have hx : exitTo id' (.inBlock id :: k) = exitTo id' k := by simp [exitTo, this]
      exact ⟨.exit id', a₁, w₁, hq, fun k' hk => .head h0 stepR_block (harr.1 k' (by rw [hx]; exact hk)),
        fun hr' hk => let ⟨k₁, h1, h2⟩ := harr.2 hr' (by rw [hx]; exact hk); ⟨k₁, h1, .head h0 stepR_block h2⟩⟩
  | goto l =>
    have hx : gotoIn l (.inBlock id :: k) = gotoIn l k := by simp [gotoIn]
    exact ⟨_, a₁, w₁, hq, fun k' hk => .head h0 stepR_block (harr.1 k' (by rw [hx]; exact hk)),
      fun hr' hk => let ⟨k₁, h1, h2⟩ := harr.2 hr' (by rw [hx]; exact hk); ⟨k₁, h1, .head h0 stepR_block h2⟩⟩
  | ret => exact ⟨_, a₁, w₁, hq, .of_steps (.one h0 stepR_block) harr⟩
  | panic ch => exact ⟨_, a₁, w₁, hq, .of_steps (.one h0 stepR_block) harr⟩
  | outgrown => exact ⟨_, a₁, w₁, hq, .of_steps (.one h0 stepR_block) harr⟩
theorem wpK_rangeFunc {g : Operand} {ps : Array Tmp} {assign body : Code} {Q : Exit → Act → World → Prop} {a : Act} {w : World}
    (h : ∃ (l : Nat) (mark : List Deferred) (w₁ : World) (d : Deferred) (w₁' : World) (f : FuncId) (args : Array Value) (w₂ : World),
      (Instr.enterLoop g0 a.tmps ps assign body none).run P w = .ok (l, mark) w₁ ∧
      (resolve a.eval (rangeCall g l) 0).run P w₁ = .ok d w₁' ∧
      (∀ f', Target.leads P w₁' d.target d.args = some f' → Fence.wide.fn f') ∧
      (invoke d.target d.args).run P w₁' = .ok (.enter f args) w₂ ∧
      (Fence.wide.depth.isSome = true → 1 ≤ n) ∧
      CallsIn Fence.wide (n - 1) P f args w₂ (rangePostK g0 n P l Q { a with defers := mark ++ a.defers })) :
    (Code.rangeFunc g ps assign body).wpK g0 n P Q a w := by
  intro b k cs hro hg0; have hb : Fence.wide.fn b.fn := trivial; have hr : Fence.wide.room (cs.length + 1 + n) := room_wide _
  obtain ⟨l, mark, w₁, d, w₁', f, args, w₂, he, hres, hlead, hinv, hn, hF, hcall⟩ := h
  rw [← hro, ← hg0] at he
  have h0 : (lone (b.atR a (.code (.rangeFunc g ps assign body) :: k)) cs w).fenced P Fence.wide := by
    refine fenced_lone (.inl hb) (fun f' hf' => hlead f' ?_) (Fence.room_le hr (by omega))
    have hev := Frame.eval_atR b a (.code (.rangeFunc g ps assign body) :: k)
    simp only [Frame.atR] at hev
    simp only [Frame.about, Frame.atR, he, hev, hres] at hf'
    exact hf'
  have henter := stepR_rangeFunc (P := P) (b := b) (a := a) (k := k) (cs := cs) (w := w) he hres hinv
  have hroom : Fence.wide.room ((b.atR { a with defers := mark ++ a.defers } (.inRangeFunc l :: k) :: cs).length + 1 + (n - 1)) := Fence.room_enter hr hn
  obtain ⟨e, w₃, fr, hR, hsteps, hfn, hleave⟩ := hcall (b.atR { a with defers := mark ++ a.defers } (.inRangeFunc l :: k) :: cs) hroom
  cases e with
  | outgrown =>
    obtain ⟨a₀, w₀, hq⟩ := hR
    exact ⟨.outgrown, a₀, w₀, hq, .inr (Outgrown.of_steps (.one henter) hsteps)⟩
  | returned v =>
    have hl : (lone fr (b.atR { a with defers := mark ++ a.defers } (.inRangeFunc l :: k) :: cs) w₃).fenced P Fence.wide := fenced_leaving (hfn ▸ hF) hroom hleave
    obtain ⟨jump, w₄, hend, hj⟩ := hR
    have sback : StepsIn (Machine.fenced P Fence.wide) P (lone (b.atR a (.code (.rangeFunc g ps assign body) :: k)) cs w) (lone (b.atR { a with defers := mark ++ a.defers } ((jump.map Item.code).toList ++ k)) cs w₄) := by
      refine .head h0 henter (StepsIn.trans hsteps (.head hl ?_ (.one (fenced_calm (fr := b.atR { a with defers := mark ++ a.defers } (.endRangeFunc l :: k)) hb hr rfl) (stepR_endRangeFunc hend))))
      rw [← finish_atR_inRangeFunc l v]; exact step_leave_returned hleave
    cases jump with
    | none => exact ⟨.normal, _, w₄, hj, sback⟩
    | some c =>
      obtain ⟨e', a'', w₅, hq, harr⟩ := hj b k cs hro hg0
      exact ⟨e', a'', w₅, hq, .of_steps sback harr⟩
  | panicked chain =>
    have hl : (lone fr (b.atR { a with defers := mark ++ a.defers } (.inRangeFunc l :: k) :: cs) w₃).fenced P Fence.wide := fenced_leaving (hfn ▸ hF) hroom hleave
    refine ⟨.panic chain, _, w₃, hR, .inRangeFunc l :: k, .head h0 henter (StepsIn.trans hsteps (.one hl ?_))⟩
    rw [← Frame.raise_atR]; exact step_leave_panicked hleave
theorem callsIn_of_wpK_marks {f : FuncId} {fn : Func} {c : Code} {args : Array Value} {w : World} {R : Ending → World → Prop}
    (hf : P.funcs[f]? = some fn) (hb : fn.body = some c)
    (h : c.wpK f n P (bodyPostM Fence.wide n P fn R) { tmps := args ++ Array.replicate (fn.ntmps - args.size) undef, defers := [] } w) : CallsIn Fence.wide n P f args w R := by
  refine ⟨trivial, fun cs hr => ?_⟩
  let b : Frame := { (default : Frame) with fn := f, kind := .normal, roundOf := none }
  have henter : Frame.enter P f args .normal =
      b.atR { tmps := args ++ Array.replicate (fn.ntmps - args.size) undef, defers := [] } [.code c] := by
    simp [Frame.enter, Frame.atR, hf, hb, b]
  obtain ⟨e, a', w', hq, harr⟩ := h b [] cs rfl rfl
  rw [← henter] at harr
  have hF : Fence.wide.fn f := trivial
  cases e with
  | normal =>
    obtain ⟨e', w'', fr', hR, hs, hfn, hl⟩ := leaves_stepsInM a'.defers .returning w' { b.atR a' [] with mode := .returning } cs rfl rfl rfl hf rfl hF hr hq
    exact ⟨e', w'', fr', hR, ComesIn.of_steps (StepsIn.trans harr (.one (fenced_calm (fr := b.atR a' []) hF hr rfl) (stepR_end rfl))) hs, hfn, hl⟩
  | ret =>
    obtain ⟨todo, hs₀⟩ := harr.1 rfl
    obtain ⟨e', w'', fr', hR, hs, hfn, hl⟩ := leaves_stepsInM a'.defers .returning w' { b.atR a' todo with mode := .returning } cs rfl rfl rfl hf rfl hF hr hq
    exact ⟨e', w'', fr', hR, ComesIn.of_steps hs₀ hs, hfn, hl⟩
  | panic chain =>
    obtain ⟨todo, hs₀⟩ := harr
    obtain ⟨e', w'', fr', hR, hs, hfn, hl⟩ := leaves_stepsInM a'.defers (.panicking chain) w' { b.atR a' todo with mode := .panicking chain } cs rfl rfl rfl hf rfl hF hr hq
    exact ⟨e', w'', fr', hR, ComesIn.of_steps hs₀ hs, hfn, hl⟩
  | exit id => exact hq.elim
  | goto l => exact hq.elim
  | outgrown => exact ⟨.outgrown, w', b, hq, harr.resolve_left (by simp [b]), rfl, trivial⟩
end Go
/- What is proved: the loop over a text's lines in a function that is known, whose body may be left by a panic. -/
namespace Go.Proofs.YtfndanccnjggfaaDoor.Q
open Go.RowKit Go.Proofs.YtfndanccnjggfaaDoorW.PrintWords Go.Proofs.YtfndanccnjggfaaDoorW.PrintLast Go.Proofs.YtfndanccnjggfaaDoorW.PrintMore
set_option linter.unusedVariables false
set_option linter.unusedSimpArgs false
/-- How the loop's body may be left: off its end, or by a panic. -/
def linesPost (D Bn : Nat) (I : Nat → ByteArray → World → Prop) (Ix : List PanicEntry → World → Prop) (n : Nat) (s : ByteArray) (W : World) : Exit → Act → World → Prop
  | .normal, _, W' => W'.heap[D]? = W.heap[D]? ∧ W'.heap[D + 1]? = W.heap[D + 1]? ∧ I (n + 1) (restOf s) W' ∧ Boxs Bn s W'
  | .panic ch, a, W' => a.defers = [] ∧ W'.heap[D]? = W.heap[D]? ∧ Ix ch W'
  | _, _, _ => False
theorem wpK_lines {g0 m : Nat} {fn : Func} (hf : Tryd.prog.funcs[g0]? = some fn) {g : Operand} {ps : Array Tmp} {assign body : Code} {Q : Exit → Act → World → Prop} {a : Act} {w : World} {Bn : Nat} {text : ByteArray}
    (hg : a.eval g = .func (.func 30) #[] #[.pointer (some ⟨Bn, 0, none⟩)]) (hps : ps.size = 2) (hB : Boxs Bn text w) (hs : text.size ≤ 65536)
    (I : Nat → ByteArray → World → Prop) (Ix : List PanicEntry → World → Prop)
    (hI1 : ∀ n s W W', I n s W → Below W.heap.size W W' → I n s W')
    (hI2 : ∀ n s s' W v, I n s W → Boxs Bn s' W → I n s (W.setCell ⟨Bn, 0, none⟩ v))
    (hI3 : ∀ n s W r r', I n s W → W.heap[w.heap.size + 1]? = some (.loop r) → I n s (W.putObj (w.heap.size + 1) (.loop r')))
    (h0 : I 1 text w) (a₁ : Nat → ByteArray → Act)
    (hassign : ∀ (n : Nat) (s : ByteArray) (W : World) (K : Act → World → Prop), K (a₁ n s) W →
      assign.wpIn (Fence.wide.inRound (w.heap.size + 1)) m Tryd.prog (Exit.then K (fun _ _ _ => False)) { tmps := (ps.zip #[.int .i64 (n : Int), .string (lineOf s)]).foldl (fun t (p, v) => t.setIfInBounds p v) a.tmps, defers := [] } W)
    (hbody : ∀ (n : Nat) (s : ByteArray) (W : World), s.size ≠ 0 → s.size ≤ 65536 → n ≤ 65536 → I n s W → Boxs Bn s W → w.heap.size + 1 < W.heap.size →
      body.wpIn (Fence.wide.inRound (w.heap.size + 1)) m Tryd.prog (linesPost w.heap.size Bn I Ix n s W) (a₁ n s) W)
    (hdone : ∀ (n : Nat) (W : World), I n ⟨#[]⟩ W → W.heap[w.heap.size]? = some (.deferred (some [])) → Q .normal { a with defers := { target := .collected w.heap.size, args := #[] } :: a.defers } W)
    (hpan : ∀ (ch : List PanicEntry) (W : World), Ix ch W → W.heap[w.heap.size]? = some (.deferred (some [])) → Q (.panic ch) { a with defers := { target := .collected w.heap.size, args := #[] } :: a.defers } W) :
    (Code.rangeFunc g ps assign body).wpK g0 (m + 2) Tryd.prog Q a w := by
  refine wpK_rangeFunc ?_
  obtain ⟨rc, hrc⟩ : ∃ rc : LoopState → Option Code → Loop, rc = fun st pe => { state := st, pending := pe, fn := g0, tmps := a.tmps, params := ps, assign, body, defers := w.heap.size } := ⟨_, rfl⟩
  obtain ⟨W1, hW1⟩ : ∃ W1, (w.alloc (.deferred (some []))).alloc (.loop (rc .ready none)) = W1 := ⟨_, rfl⟩
  have hL1 : W1.heap[w.heap.size + 1]? = some (.loop (rc .ready none)) := by
    rw [← hW1]; have := World.alloc_heap_new (w.alloc (.deferred (some []))) (.loop (rc .ready none)); rwa [World.size_alloc] at this
  have hK1 : W1.heap[w.heap.size]? = some (.deferred (some [])) := by
    rw [← hW1]; exact (Below.heap_alloc _ _ _ (by simp)).trans (World.alloc_heap_new w _)
  have hbW : Below w.heap.size w W1 := by
    rw [← hW1]; exact ((Below.refl _ w).alloc (Nat.le_refl _) _).alloc (by simp) _
  have hI0 : I 1 text W1 := hI1 _ _ _ _ h0 hbW
  have hB1 : Boxs Bn text W1 := blk_below hB hbW
  have hBlt : Bn < w.heap.size := blk_lt hB
  refine ⟨w.heap.size + 1, [{ target := .collected w.heap.size, args := #[] }], W1, { target := .fn (.func 30) #[.pointer (some ⟨Bn, 0, none⟩)], args := #[.func (.yield (w.heap.size + 1)) #[] #[]] }, W1, 30,
    #[.func (.yield (w.heap.size + 1)) #[] #[]] ++ #[.pointer (some ⟨Bn, 0, none⟩)], W1, ?_, ?_, fun _ _ => trivial, ?_, fun hn => by simp [Fence.wide] at hn, ?_⟩
  · rw [← hW1, hrc]; exact run_enterLoop_outer _ _ _ _ _
  · simp only [resolve, hg]
    simp [go_sem]
  · simp [invoke, go_sem]
  · have hset : ∀ (W : World) (k : Nat) (v : Value), k ≠ Bn → (W.setCell ⟨Bn, 0, none⟩ v).heap[k]? = W.heap[k]? := fun W k v hk => Below.heap_setCell W ⟨Bn, 0, none⟩ v k hk
    refine CallsIn.mono (lines1_in m (w.heap.size + 1) Bn text hs 1
      (fun n s W => I n s W ∧ W.heap[w.heap.size + 1]? = some (.loop (rc .ready none)) ∧ W.heap[w.heap.size]? = some (.deferred (some [])))
      (fun ch W => Ix ch W ∧ W.heap[w.heap.size]? = some (.deferred (some [])))
      (fun n s W W' h _ hb => ⟨hI1 _ _ _ _ h.1 hb, blk_below h.2.1 hb, blk_below h.2.2 hb⟩)
      (fun n s s' W h hx => ⟨hI2 _ _ _ _ _ h.1 hx, by rw [hset W _ _ (by omega)]; exact h.2.1, by rw [hset W _ _ (by omega)]; exact h.2.2⟩)
      ?_ W1 hB1 ⟨hI0, hL1, hK1⟩) ?_
    · rintro n s W hz hsz hn ⟨hi, hl, hk⟩ hBx
      have hlt : w.heap.size + 1 < W.heap.size := (Array.getElem?_eq_some_iff.1 hl).1
      have hy := run_yield (P := Tryd.prog) (args := #[.int .i64 (n : Int), .string (lineOf s)]) hl (by rw [hrc]; exact hps.symm)
      rw [hrc] at hy
      have hl2 : (W.putObj (w.heap.size + 1) (.loop { rc .ready none with state := .busy })).heap[w.heap.size + 1]? = some (.loop { rc .ready none with state := .busy }) := World.putObj_heap_same hlt
      have hk2 : (W.putObj (w.heap.size + 1) (.loop { rc .ready none with state := .busy })).heap[w.heap.size]? = some (.deferred (some [])) := (World.putObj_heap_other (by omega)).trans hk
      have hB2 : Boxs Bn s (W.putObj (w.heap.size + 1) (.loop { rc .ready none with state := .busy })) := (World.putObj_heap_other (by omega)).trans hBx
      refine ⟨g0, _, assign, body, hy, roundInP_of_wpIn trivial ⟨fn, hf⟩ (hassign n s W _ ⟨_, run_beginRound hl (by rw [hrc]), ?_⟩)⟩
      refine wpIn_mono (hbody n s _ hz hsz hn (hI3 _ _ _ _ _ hi hl) hB2 (by rw [World.putObj_size]; exact hlt)) ?_
      rintro e a3 W3 hp
      cases e with
      | normal =>
        obtain ⟨e1, e2, hi3, hB3⟩ := hp
        have hl3 := e2.trans hl2
        have hr := run_endRound (P := Tryd.prog) none hl3
        refine ⟨_, _, hr, .inl ⟨rfl, ⟨hI3 _ _ _ _ _ hi3 hl3, ?_, (World.putObj_heap_other (by omega)).trans (e1.trans hk2)⟩, (World.putObj_heap_other (by omega)).trans hB3⟩⟩
        rw [World.putObj_heap_same (Array.getElem?_eq_some_iff.1 hl3).1, hrc]
        rfl
      | panic ch =>
        obtain ⟨hd, e1, hx⟩ := hp
        exact ⟨hd, .inr ⟨ch, rfl, hx, e1.trans hk2⟩⟩
      | ret => exact hp.elim
      | exit id => exact hp.elim
      | goto t => exact hp.elim
      | outgrown => exact hp.elim
    · rintro e W2 (⟨rfl, n, hi, hl, hk⟩ | ⟨ch, rfl, hx, hk⟩)
      · exact ⟨none, _, by have := run_endLoop (P := Tryd.prog) hl (by rw [hrc]; simp); rw [hrc] at this; exact this, hdone _ _ (hI3 _ _ _ _ _ hi hl) ((World.putObj_heap_other (by omega)).trans hk)⟩
      · exact hpan ch _ hx hk
end Go.Proofs.YtfndanccnjggfaaDoor.Q
/- What is proved: what lex.Lex makes of any text: its tokens, or where its fault is. -/
namespace Go.Proofs.YtfndanccnjggfaaDoor.Q
open Go.RowKit Go.Proofs.YtfndanccnjggfaaDoorW.PrintWords Go.Proofs.YtfndanccnjggfaaDoorW.PrintLast Go.Proofs.YtfndanccnjggfaaDoorW.PrintMore
set_option linter.unusedVariables false
set_option linter.unusedSimpArgs false
attribute [local go_sem] Oper.semAt_some
def lex_Lex.f (a0 : ByteArray) : Option (List S36 × Int × Int × Int) :=
  if 65536 < a0.size then some ([], 4, 0, 0) else
  match lexF a0 with
  | .ok l => some (l, 0, 0, 0)
  | .error (e, n, i) => some ([], e, n, i)
def lexFault : Except (Int × Int × Int) (List S36) → Array Value
  | .ok _ => #[.int .i64 0, .int .i64 0, .int .i64 0]
  | .error (e, n, i) => #[.int .i64 e, .int .i64 n, .int .i64 i]
def lexToks : Except (Int × Int × Int) (List S36) → List S36
  | .ok l => l
  | .error _ => []
/-- Between two lines. -/
def LexI (w : World) (K : Except (Int × Int × Int) (List S36)) (n : Nat) (s : ByteArray) (W : World) : Prop :=
  ∃ (acc : List S36) (fuel : Nat) (vl : Value), lexFrom fuel s n acc = K ∧ s.size < fuel ∧ acc.length ≤ (n - 1) * 65537 ∧ 1 ≤ n ∧
    W.heap[w.heap.size]? = some (.cells #[vl] 23 (0, 0)) ∧ W.heap[w.heap.size + 1]? = some (.cells #[.int .i64 0, .int .i64 0, .int .i64 0] 26 (0, 0)) ∧
    Kd.R k36 36 W w.heap.size (fun k => k ≠ w.heap.size + 3 ∧ k ≠ w.heap.size + 4) vl acc ∧ Below w.heap.size w W
/-- Behind a panic. -/
def LexX (w : World) (K : Except (Int × Int × Int) (List S36)) (ch : List PanicEntry) (W : World) : Prop :=
  ∃ (e k i : Int) (vl : Value), K = .error (e, k, i) ∧ ch = [flt e k i] ∧
    W.heap[w.heap.size]? = some (.cells #[vl] 23 (0, 0)) ∧ W.heap[w.heap.size + 1]? = some (.cells #[.int .i64 0, .int .i64 0, .int .i64 0] 26 (0, 0)) ∧ Below w.heap.size w W
theorem LexI.below {w : World} {K : Except (Int × Int × Int) (List S36)} {n : Nat} {s : ByteArray} {W W' : World} (h : LexI w K n s W) (hb : Below W.heap.size W W') : LexI w K n s W' := by
  obtain ⟨acc, fuel, vl, h1, h2, h3, h4, h5, h6, h7, h8⟩ := h
  exact ⟨acc, fuel, vl, h1, h2, h3, h4, blk_below h5 hb, blk_below h6 hb, Kd.R_below h7 hb, h8.trans (hb.mono h8.size)⟩
theorem LexI.set {w : World} {K : Except (Int × Int × Int) (List S36)} {n : Nat} {s s' : ByteArray} {W : World} (h : LexI w K n s W) (hB : Boxs (w.heap.size + 2) s' W) (v : Value) : LexI w K n s (W.setCell ⟨w.heap.size + 2, 0, none⟩ v) := by
  obtain ⟨acc, fuel, vl, h1, h2, h3, h4, h5, h6, h7, h8⟩ := h
  exact ⟨acc, fuel, vl, h1, h2, h3, h4, blk_far h5 (by simp) v, blk_far h6 (by simp) v, Kd.R_set h7 hB (by decide) 0 v, h8.setCell (p := ⟨w.heap.size + 2, 0, none⟩) (by simp) v⟩
theorem LexI.put {w : World} {K : Except (Int × Int × Int) (List S36)} {n : Nat} {s : ByteArray} {W : World} {r r' : Loop} (h : LexI w K n s W) (hl : W.heap[w.heap.size + 4]? = some (.loop r)) : LexI w K n s (W.putObj (w.heap.size + 4) (.loop r')) := by
  obtain ⟨acc, fuel, vl, h1, h2, h3, h4, h5, h6, h7, h8⟩ := h
  refine ⟨acc, fuel, vl, h1, h2, h3, h4, (World.putObj_heap_other (by omega)).trans h5, (World.putObj_heap_other (by omega)).trans h6, Kd.R_grown h7 (grownBy_putObj' W _ (.loop r')) (fun k hk => ?_), h8.trans (belowK_b (w := w) (Nat.le_refl _) W _ _ _ (by omega) hl rfl rfl)⟩
  intro he
  injection he with he
  exact hk.2 he
theorem lexFrom_step {f n : Nat} {s : ByteArray} {acc : List S36} (h : s.size ≠ 0) : lexFrom (f + 1) s n acc = (match looksAt (lineOf s) with
      | some (e, i) => .error (e, (n : Int), i)
      | none => match readF (lineOf s) (n : Int) with
        | .error j => .error (151, (n : Int), (j : Int))
        | .ok l => lexFrom f (restOf s) (n + 1) (acc ++ l)) := by
  simp only [lexFrom, if_neg h] <;> rfl
/-- The round's frame behind the assignment. -/
def lexAct (w : World) (text : ByteArray) (n : Nat) (line : ByteArray) : Act :=
  { tmps := #[.string text, undef, .pointer (some ⟨w.heap.size, 0, none⟩), .pointer (some ⟨w.heap.size + 1, 0, none⟩), .int .i64 (n : Int), .string line, undef, .string text,
      .int .i64 (text.size : Int), .bool false, undef, .func (.func 16) #[] #[.pointer (some ⟨w.heap.size, 0, none⟩), .pointer (some ⟨w.heap.size + 1, 0, none⟩)], .string text,
      .func (.func 30) #[] #[.pointer (some ⟨w.heap.size + 1 + 1, 0, none⟩)], .int .i64 (n : Int), .string line, undef, undef, undef, undef, undef, undef, undef, undef, undef, undef, undef, undef, undef, undef, undef, undef, undef, undef, undef, undef, undef], defers := [] }
set_option maxHeartbeats 8000000 in
set_option maxRecDepth 1000000 in
theorem lex_calls (text : ByteArray) (hs : text.size ≤ 65536) (w : World) (hG : Glob w) :
    CallsIn Fence.wide 2 Tryd.prog 8 #[.string text] w fun r w' => ∃ v, r = .returned (.tuple #[v, .agg (lexFault (lexF text))]) ∧ Kd.V k36 36 w' w.heap.size (fun k_ => w.heap.size ≤ k_) v (lexToks (lexF text)) ∧ Below w.heap.size w w' := by
  obtain ⟨K, hK⟩ : ∃ K, K = lexF text := ⟨_, rfl⟩
  rw [← hK]
  have HK := Aside0.mk hK
  clear hK
  have hmf : ∀ (fn : Fn) (first cap : Array Value) (w : World), (Instr.makeFunc fn first cap).run Tryd.prog w = .ok (.func fn first cap) w := fun _ _ _ _ => rfl
  refine callsIn_of_wpK_marks Tryd.func8 rfl ?_
  simp only [Tryd.ntmps8, List.size_toArray, List.length_cons, List.length_nil, Nat.reduceAdd, Nat.reduceSub, Array.replicate_succ, Array.replicate_zero, List.push_toArray, List.append_toArray, List.nil_append, List.cons_append]
  refine wpK_seq (wpK_of ?_)
  gi_wp2
  have hs' : ¬ (65536 : Int) < (text.size : Int) := by omega
  refine wpK_seq (wpK_of ?_)
  gi_wp2
  refine wpK_seq (wpK_of ?_)
  gi_wp2
  refine wpK_seq ?_
  refine wpK_seq (wpK_of ?_)
  gi_wp2
  refine ⟨trivial, CallsIn.mono (callsIn_wide.2 (lines_calls text _)) ?_⟩
  rintro e w2 ⟨rfl, hw2⟩
  simp only [World.size_alloc] at hw2 ⊢
  have hsz : w2.heap.size = w.heap.size + 3 := by rw [hw2]; simp
  have hb2 : Below w.heap.size w w2 := by
    rw [hw2]
    exact (((Below.refl _ w).alloc (Nat.le_refl _) _).alloc (by simp) _).alloc (by simp; omega) _
  have hl2 : w2.heap[w.heap.size]? = some (.cells #[.slice none 0 0] 23 (0, 0)) := by
    rw [hw2]
    exact blk_alloc (blk_alloc (blk_new w _) _) _
  have hf2 : w2.heap[w.heap.size + 1]? = some (.cells #[.int .i64 0, .int .i64 0, .int .i64 0] 26 (0, 0)) := by
    rw [hw2]
    have := blk_new (w.alloc (.cells #[.slice none 0 0] 23)) (.cells #[.int .i64 0, .int .i64 0, .int .i64 0] 26)
    rw [World.size_alloc] at this
    exact blk_alloc this _
  have hB2 : Boxs (w.heap.size + 2) text w2 := by
    rw [hw2]
    have := blk_new ((w.alloc (.cells #[.slice none 0 0] 23)).alloc (.cells #[.int .i64 0, .int .i64 0, .int .i64 0] 26)) (.cells #[.string text] 9)
    rw [World.size_alloc, World.size_alloc] at this
    exact this
  clear hw2
  gi_wp2
  refine wpK_block ?_
  refine wpK_lines Tryd.func8 (m := 0) (Bn := w.heap.size + 2) (text := text) rfl rfl hB2 hs (LexI w K) (LexX w K) (fun n s W W' h hb => h.below hb) (fun n s s' W v h hx => h.set hx v) (fun n s W r r' h hl => ?i3) ⟨[], text.size + 1, .slice none 0 0, HK.out.symm, by omega, by simp, by omega, hl2, hf2, Kd.R_nil _ _ _ _ _, hb2⟩
    (fun n s => lexAct w text n (lineOf s)) (fun n s W K' hk => ?assign) (fun n s W hz hsz' hn hi hBx hlt => ?body) (fun n W hi hd => ?done) (fun ch W hx hd => ?pan)
  case i3 =>
    rw [hsz] at hl ⊢
    exact h.put hl
  case assign =>
    gi_wp2
    exact hk
  case body =>
    obtain ⟨acc, fuel, vl, h1, h2, h3, h4, h5, h6, h7, h8⟩ := hi
    obtain ⟨f, rfl⟩ : ∃ f, fuel = f + 1 := ⟨fuel - 1, by omega⟩
    rw [lexFrom_step hz] at h1
    have hln : (lineOf s).size ≤ 65536 := Nat.le_trans (lineOf_size s) hsz'
    have hbX : Below W.heap.size W (W.alloc (.cells #[.string (lineOf s), .int .i64 (n : Int), .slice none 0 0] 48)) := (Below.refl _ W).alloc (Nat.le_refl _) _
    have hLX : LineAt W.heap.size W.heap.size (lineOf s) (n : Int) [] (W.alloc (.cells #[.string (lineOf s), .int .i64 (n : Int), .slice none 0 0] 48)) :=
      ⟨Nat.le_refl _, _, blk_new W _, Kd.R_nil _ _ _ _ _⟩
    have hGX : Glob (W.alloc (.cells #[.string (lineOf s), .int .i64 (n : Int), .slice none 0 0] 48)) := hG.below (h8.trans (hbX.mono h8.size))
    have hWD : w.heap.size + 3 < W.heap.size := by omega
    unfold lexAct
    gi_wp2
    refine ⟨trivial, rfl, CallsIn.mono (CallsIn.inRound _ (callsIn_wide.2 (looks_calls W.heap.size W.heap.size (lineOf s) (n : Int) [] _ hLX hGX (by omega)))) ?_⟩
    rintro r W4 ⟨hle, hb4⟩
    have hb04 : Below W.heap.size W W4 := hbX.trans (hb4.mono hbX.size)
    cases hlk : looksAt (lineOf s) with
    | some ei =>
      obtain ⟨e, i⟩ := ei
      rw [hlk] at hle h1
      obtain rfl := hle
      exact ⟨rfl, hb04.block _ hWD, e, (n : Int), i, vl, h1.symm, rfl, blk_below h5 hb04, blk_below h6 hb04, h8.trans (hb04.mono h8.size)⟩
    | none =>
      rw [hlk] at hle h1
      obtain rfl := hle
      simp only at h1
      have hL4 := hLX.below hb4
      gi_wp2
      refine ⟨trivial, rfl, CallsIn.mono (CallsIn.inRound _ (callsIn_wide.2 (reads_calls W.heap.size W.heap.size (lineOf s) (n : Int) _ hL4 hb04.size hln))) ?_⟩
      rintro r W5 ⟨hre, hb5⟩
      have hb05 : Below W.heap.size W W5 := hb04.trans hb5
      cases hrd : readF (lineOf s) (n : Int) with
      | error j =>
        rw [hrd] at hre h1
        obtain rfl := hre
        exact ⟨rfl, hb05.block _ hWD, 151, (n : Int), (j : Int), vl, h1.symm, rfl, blk_below h5 hb05, blk_below h6 hb05, h8.trans (hb05.mono h8.size)⟩
      | ok lx =>
        rw [hrd] at hre h1
        obtain ⟨rfl, hL5⟩ := hre
        simp only at h1
        gi_wp2
        have hlx := readF_len hrd
        obtain ⟨_, v5, hx5, hR5⟩ := hL5
        obtain ⟨Ax, cx, rfl⟩ := Kd.R_slice hR5
        have HCx := Aside0.mk ((Kd.R_reads' hR5).2.2)
        have HBx := Aside0.mk hx5
        have HRl := Aside0.mk (Kd.R_below h7 hb05)
        have HBl := Aside0.mk (blk_below h5 hb05)
        have HBf := Aside0.mk (blk_below h6 hb05)
        have HBs := Aside0.mk (blk_below hBx hb05)
        have HBW := Aside0.mk (h8.trans (hb05.mono h8.size))
        have hsz5 := hb05.size
        have hD01 : W5.heap[w.heap.size + 3]? = W.heap[w.heap.size + 3]? := hb05.block _ hWD
        have hD02 : W5.heap[w.heap.size + 4]? = W.heap[w.heap.size + 4]? := hb05.block _ (by omega)
        have c1 : W5.cell? ⟨w.heap.size, 0, none⟩ = some vl := blk_cell HBl.out 0
        have c2 : W5.cell? ⟨W.heap.size, 2, none⟩ = some (.slice Ax lx.length cx) := blk_cell hx5 2
        clear hx5 hR5 h5 h6 h7 h8 hBx hb5 hb4 hbX hLX hGX hL4
        refine startIn_ (k := 7) (S := fun w' => w'.cell? ⟨w.heap.size, 0, none⟩ = some vl ∧ w'.cell? ⟨W.heap.size, 2, none⟩ = some (.slice Ax lx.length cx)) (ds := [6]) #[false, false, false, false, false, false, false] (by first | kernel_rfl | simp) (by rintro ⟨_, _, h⟩; exact h) (by kernel_rfl) rfl rfl ⟨c1, c2⟩ (fun hHeld => ?_)
        refine pure_ (i := 1) (N := some 25) (v := ?_) (a' := ?_) #[false, true, false, false, false, false, false] rfl rfl (by kernel_rfl) (fun _ _ _ h => h) (Or.inl ⟨by rfl, ?_⟩) ?_ ?_
        rotate_left
        · intro w'
          go_simp
          with_reducible rfl
        rotate_left
        · simp only [Act.put, List.setIfInBounds_toArray, List.set_cons_zero, List.set_cons_succ, i64_w, i32_w]
          rfl
        refine pure_ (i := 2) (N := some 26) (v := ?_) (a' := ?_) #[false, true, true, false, false, false, false] rfl rfl (by kernel_rfl) (fun _ _ _ h => h) (Or.inl ⟨by rfl, ?_⟩) ?_ ?_
        rotate_left
        · intro w'
          go_simp
          with_reducible rfl
        rotate_left
        · simp only [Act.put, List.setIfInBounds_toArray, List.set_cons_zero, List.set_cons_succ, i64_w, i32_w]
          rfl
        refine pure_ (i := 3) (N := some 27) (v := ?_) (a' := ?_) #[false, true, true, true, false, false, false] rfl rfl (by kernel_rfl) (fun _ _ _ h => h) (Or.inl ⟨by rfl, ?_⟩) ?_ ?_
        rotate_left
        · intro w'
          go_simp
          with_reducible rfl
        rotate_left
        · simp only [Act.put, List.setIfInBounds_toArray, List.set_cons_zero, List.set_cons_succ, i64_w, i32_w]
          rfl
        refine take_ (i := 0) (N := some 24) (v := ?_) (a' := ?_) #[true, true, true, true, false, false, false] rfl rfl (by kernel_rfl) (fun _ _ _ h => h) (Or.inl ⟨by rfl, ?_⟩) hHeld ?_ ?_
        rotate_left
        · rintro w' ⟨s0, s1⟩
          go_simp
          with_reducible rfl
        rotate_left
        · simp only [Act.put, List.setIfInBounds_toArray, List.set_cons_zero, List.set_cons_succ, i64_w, i32_w]
          rfl
        refine take_ (i := 4) (N := some 28) (v := ?_) (a' := ?_) #[true, true, true, true, true, false, false] rfl rfl (by kernel_rfl) (fun _ _ _ h => h) (Or.inl ⟨by rfl, ?_⟩) hHeld ?_ ?_
        rotate_left
        · rintro w' ⟨s0, s1⟩
          go_simp
          with_reducible rfl
        rotate_left
        · simp only [Act.put, List.setIfInBounds_toArray, List.set_cons_zero, List.set_cons_succ, i64_w, i32_w]
          rfl
        refine one_ (i := 5) (N := some 29) #[true, true, true, true, true, true, false] rfl rfl (by kernel_rfl) (by decide) (fun K hK => ?_)
        refine Kd.R_append_rows_step k36 (w0 := w) w.heap.size rfl (.tmp 24) (.tmp 28) 23 36 (.agg #[(.int .u8 0), (.string ⟨#[]⟩), (.int .i64 0), (.int .i64 0)]) 40 rfl Tryd.underlying23 info36 rfl (by decide) (by decide) vl acc lx Ax lx.length cx (fun k => k ≠ w.heap.size + 3 ∧ k ≠ w.heap.size + 4) (fun _ => False) (by simp [Act.eval, Act.put]) (by simp [Act.eval, Act.put]) (Kd.R_drew HRl.out) HCx.out (fun x cs h => by obtain rfl := k36_open h; exact k36_mkM _ _ _ x) (fun _ h => h.elim) (fun k hk => by simp at hk; omega) (below_drew HBW.out) (by simp; omega) (by omega) ?_
        intro v1 w1 hR1 hb1 hg1 hat1
        have hbk1 := blk_grown (blk_drew HBl.out) hg1 (Kd.R_ne (Kd.R_drew HRl.out) (blk_drew HBl.out) (by decide))
        have hxk1 := blk_grown (blk_drew HBx.out) hg1 (Kd.R_ne (Kd.R_drew HRl.out) (blk_drew HBx.out) (by decide))
        have hsk1 := blk_grown (blk_drew HBs.out) hg1 (Kd.R_ne (Kd.R_drew HRl.out) (blk_drew HBs.out) (by decide))
        have hfk1 := blk_grown (blk_drew HBf.out) hg1 (Kd.R_ne (Kd.R_drew HRl.out) (blk_drew HBf.out) (by decide))
        have hD1 : w1.heap[w.heap.size + 3]? = W5.heap[w.heap.size + 3]? := hg1.block _ (by simp; omega) (fun h => (HRl.out.1 _ h.symm).1 rfl)
        have hD2 : w1.heap[w.heap.size + 4]? = W5.heap[w.heap.size + 4]? := hg1.block _ (by simp; omega) (fun h => (HRl.out.1 _ h.symm).2 rfl)
        obtain ⟨Ao, co, rfl⟩ := Kd.R_slice hR1
        have kf1 := blk_frozen hbk1 0
        refine hK.out _ _ ⟨(blk_cell hbk1 0), (blk_cell hxk1 2)⟩ (fun hHeld => ?_)
        clear hK K
        refine norm_ (a' := ?_) ?_ ?_
        rotate_left
        · show Act.put _ (some 29) _ = _
          simp only [Act.put, List.setIfInBounds_toArray, List.set_cons_zero, List.set_cons_succ, i64_w, i32_w]
          rfl
        refine last_ (i := 6) (N := none) #[true, true, true, true, true, true, true] rfl rfl (by kernel_rfl) (by decide) (fun K hK => ?_)
        refine skip_ (w1 := ?_) (by rfl) rfl ?_ ?_
        rotate_left
        · go_simp
          rfl
        refine hK.out _ _ ?_
        clear hK K
        refine done_ (by kernel_rfl) ?_
        have hlen : (acc ++ lx).length = acc.length + lx.length := List.length_append
        rw [hlen] at hR1
        have hset : ∀ k, k ≠ w.heap.size → (w1.setCell ⟨w.heap.size, 0, none⟩ (.slice Ao (acc.length + lx.length) co)).heap[k]? = w1.heap[k]? := fun k hk => Below.heap_setCell w1 ⟨w.heap.size, 0, none⟩ _ k hk
        have hrl := restOf_lt s hz
        refine ⟨?_, ?_, ⟨acc ++ lx, f, .slice Ao (acc.length + lx.length) co, h1, by omega, by omega, by omega, blk_put hbk1 0 _ rfl, (hset _ (by omega)).trans hfk1, Kd.R_set hR1 hbk1 (by decide) 0 _, hb1.setCell (p := ⟨w.heap.size, 0, none⟩) (Nat.le_refl _) _⟩, (hset _ (by omega)).trans hsk1⟩
        · rw [hsz, hset _ (by omega)]; exact hD1.trans hD01
        · rw [hsz, hset _ (by omega)]; exact hD2.trans hD02
  case done =>
    obtain ⟨acc, fuel, vl, h1, h2, h3, h4, h5, h6, h7, h8⟩ := hi
    have hKa : K = .ok acc := by
      obtain ⟨f, rfl⟩ : ∃ f, fuel = f + 1 := ⟨fuel - 1, by omega⟩
      rw [← h1]
      simp [lexFrom, show (⟨#[]⟩ : ByteArray).size = 0 from rfl]
    obtain ⟨Ax, cx, rfl⟩ := Kd.R_slice h7
    have c1 : W.cell? ⟨w.heap.size, 0, none⟩ = some (.slice Ax acc.length cx) := blk_cell h5 0
    have f1 := blk_frozen h5 0
    have c20 : W.cell? ⟨w.heap.size + 1, 0, none⟩ = some (.int .i64 0) := blk_cell h6 0
    have c21 : W.cell? ⟨w.heap.size + 1, 1, none⟩ = some (.int .i64 0) := blk_cell h6 1
    have c22 : W.cell? ⟨w.heap.size + 1, 2, none⟩ = some (.int .i64 0) := blk_cell h6 2
    have f20 := blk_frozen h6 0
    have f21 := blk_frozen h6 1
    have f22 := blk_frozen h6 2
    have H5 := Aside0.mk h5
    have H6 := Aside0.mk h6
    have H7 := Aside0.mk h7
    have HD := Aside0.mk hd
    obtain ⟨hr1, hr2, hr3⟩ := Kd.R_reads' h7
    clear h1 h2 h3 h4 h5 h6 h7 hd hr3
    refine (show Code.wpK 8 2 Tryd.prog _ _ _ _ from wpK_of ?_)
    gi_wp2
    have k1 := blk_far (blk_far (blk_far (blk_put H5.out 0 (.slice Ax acc.length acc.length) rfl) (p := ⟨w.heap.size + 1, 0, none⟩) (by simp) (.int .i64 0)) (p := ⟨w.heap.size + 1, 1, none⟩) (by simp) (.int .i64 0)) (p := ⟨w.heap.size + 1, 2, none⟩) (by simp) (.int .i64 0)
    have hf0 := blk_far H6.out (p := ⟨w.heap.size, 0, none⟩) (by simp) (.slice Ax acc.length acc.length)
    have hf1 := blk_put hf0 0 (.int .i64 0) rfl
    have hf2 := blk_put hf1 1 (.int .i64 0) rfl
    have hf3 := blk_put hf2 2 (.int .i64 0) rfl
    have r1 := Kd.R_set H7.out H5.out (by decide) 0 (.slice Ax acc.length acc.length)
    have r2 := Kd.R_set r1 hf0 (by decide) 0 (.int .i64 0)
    have r3 := Kd.R_set r2 hf1 (by decide) 1 (.int .i64 0)
    have r4 := Kd.R_set r3 hf2 (by decide) 2 (.int .i64 0)
    have hset : ∀ (W : World) (p : Addr) (v : Value), p.block ≠ w.heap.size + 3 → (W.setCell p v).heap[w.heap.size + 3]? = W.heap[w.heap.size + 3]? := fun W p v hp => Below.heap_setCell W p v _ (fun h => hp h.symm)
    have hb4 := (((h8.setCell (p := ⟨w.heap.size, 0, none⟩) (Nat.le_refl _) (.slice Ax acc.length acc.length)).setCell (p := ⟨w.heap.size + 1, 0, none⟩) (Nat.le_succ _) (.int .i64 0)).setCell (p := ⟨w.heap.size + 1, 1, none⟩) (Nat.le_succ _) (.int .i64 0)).setCell (p := ⟨w.heap.size + 1, 2, none⟩) (Nat.le_succ _) (.int .i64 0)
    have hD := HD.out
    rw [hsz] at hD
    have hd4 : ((((W.setCell ⟨w.heap.size, 0, none⟩ (.slice Ax acc.length acc.length)).setCell ⟨w.heap.size + 1, 0, none⟩ (.int .i64 0)).setCell ⟨w.heap.size + 1, 1, none⟩ (.int .i64 0)).setCell ⟨w.heap.size + 1, 2, none⟩ (.int .i64 0)).heap[w.heap.size + 3]? = some (.deferred (some [])) := by
      rw [hset _ _ _ (by simp), hset _ _ _ (by simp), hset _ _ _ (by simp), hset _ _ _ (by simp)]
      exact hD
    generalize (((W.setCell ⟨w.heap.size, 0, none⟩ (.slice Ax acc.length acc.length)).setCell ⟨w.heap.size + 1, 0, none⟩ (.int .i64 0)).setCell ⟨w.heap.size + 1, 1, none⟩ (.int .i64 0)).setCell ⟨w.heap.size + 1, 2, none⟩ (.int .i64 0) = W4 at *
    refine ⟨by simp, .inl ⟨_, _, rfl, run_takeDeferred hd4, ?_⟩⟩
    have q1 : (W4.putObj (w.heap.size + 3) (.deferred none)).heap[w.heap.size]? = _ := (World.putObj_heap_other (by omega)).trans k1
    have q2 : (W4.putObj (w.heap.size + 3) (.deferred none)).heap[w.heap.size + 1]? = _ := (World.putObj_heap_other (by omega)).trans hf3
    have q3 := Kd.R_grown r4 (grownBy_putObj' W4 (w.heap.size + 3) (.deferred none)) (fun k hk he => by injection he with he; exact hk.1 he)
    have q4 := hb4.trans (belowK_b (w := w) (Nat.le_refl _) W4 (w.heap.size + 3) _ (.deferred none) (by omega) hd4 rfl rfl)
    generalize W4.putObj (w.heap.size + 3) (.deferred none) = W6 at *
    refine ⟨by simp, .inr ⟨fun hn => by simp [Fence.wide] at hn, _, _, 16, #[.pointer (some ⟨w.heap.size, 0, none⟩), .pointer (some ⟨w.heap.size + 1, 0, none⟩)], rfl, by simp [go_sem], fun _ _ => trivial, CallsDIn.mono (lexd_idle _ _ _ _) ?_⟩⟩
    rintro e u' w' ⟨rfl, rfl, rfl⟩
    have e1 : w'.cell? ⟨w.heap.size, 0, none⟩ = some (.slice Ax acc.length acc.length) := blk_cell q1 0
    have e20 : w'.cell? ⟨w.heap.size + 1, 0, none⟩ = some (.int .i64 0) := blk_cell q2 0
    have e21 : w'.cell? ⟨w.heap.size + 1, 1, none⟩ = some (.int .i64 0) := blk_cell q2 1
    have e22 : w'.cell? ⟨w.heap.size + 1, 2, none⟩ = some (.int .i64 0) := blk_cell q2 2
    exact ⟨_, by simp [results, Tryd.results8, go_sem, e1, e20, e21, e22]; rfl, .slice Ax acc.length acc.length, rfl, Kd.V_mk (Nat.le_refl _) (Kd.F_mono (Kd.R_F (Kd.R_bound q3)) (fun k hk => hk.2.1)), q4⟩
  case pan =>
    obtain ⟨e, k, i, vl, hKe, rfl, h5, h6, h8⟩ := hx
    rw [hsz] at hd
    refine (show LeavesInM Fence.wide 2 Tryd.prog Tryd.f8 _ _ _ _ _ from ?_)
    rw [hsz]
    refine ⟨by simp, .inl ⟨_, _, rfl, run_takeDeferred hd, ?_⟩⟩
    have q1 : (W.putObj (w.heap.size + 3) (.deferred none)).heap[w.heap.size]? = _ := (World.putObj_heap_other (by omega)).trans h5
    have q2 : (W.putObj (w.heap.size + 3) (.deferred none)).heap[w.heap.size + 1]? = _ := (World.putObj_heap_other (by omega)).trans h6
    have q4 := h8.trans (belowK_b (w := w) (Nat.le_refl _) W (w.heap.size + 3) _ (.deferred none) (by omega) hd rfl rfl)
    generalize W.putObj (w.heap.size + 3) (.deferred none) = W6 at *
    refine ⟨by simp, .inr ⟨fun hn => by simp [Fence.wide] at hn, _, _, 16, #[.pointer (some ⟨w.heap.size, 0, none⟩), .pointer (some ⟨w.heap.size + 1, 0, none⟩)], rfl, by simp [go_sem], fun _ _ => trivial, CallsDIn.mono (lexd_panic _ w.heap.size vl e k i [] _ q1 q2) ?_⟩⟩
    rintro r u' w' ⟨rfl, rfl, p1, p2, p3⟩
    have e1 : w'.cell? ⟨w.heap.size, 0, none⟩ = some (.slice none 0 0) := blk_cell p1 0
    have e20 : w'.cell? ⟨w.heap.size + 1, 0, none⟩ = some (.int .i64 e) := blk_cell p2 0
    have e21 : w'.cell? ⟨w.heap.size + 1, 1, none⟩ = some (.int .i64 k) := blk_cell p2 1
    have e22 : w'.cell? ⟨w.heap.size + 1, 2, none⟩ = some (.int .i64 i) := blk_cell p2 2
    rw [hKe]
    exact ⟨_, by simp [results, Tryd.results8, go_sem, e1, e20, e21, e22]; rfl, .slice none 0 0, rfl, Kd.V_mk (xs := []) (Nat.le_refl _) (Kd.F_nil _ _ _), q4.trans p3⟩
set_option maxHeartbeats 8000000 in
set_option maxRecDepth 1000000 in
theorem lex_long (text : ByteArray) (hs : 65536 < text.size) (w : World) :
    CallsIn Fence.wide 2 Tryd.prog 8 #[.string text] w fun r w' => ∃ v, r = .returned (.tuple #[v, .agg #[.int .i64 4, .int .i64 0, .int .i64 0]]) ∧ Kd.V k36 36 w' w.heap.size (fun k_ => w.heap.size ≤ k_) v [] ∧ Below w.heap.size w w' := by
  have hs' : (65536 : Int) < (text.size : Int) := by omega
  refine callsIn_of_wpK_marks Tryd.func8 rfl ?_
  simp only [Tryd.ntmps8, List.size_toArray, List.length_cons, List.length_nil, Nat.reduceAdd, Nat.reduceSub, Array.replicate_succ, Array.replicate_zero, List.push_toArray, List.append_toArray, List.nil_append, List.cons_append]
  refine wpK_seq (wpK_of ?_)
  gi_wp2
  have hl2 : ((w.alloc (.cells #[.slice none 0 0] 23)).alloc (.cells #[.int .i64 0, .int .i64 0, .int .i64 0] 26)).heap[w.heap.size]? = some (.cells #[.slice none 0 0] 23 (0, 0)) := blk_alloc (blk_new w _) _
  have hf2 : ((w.alloc (.cells #[.slice none 0 0] 23)).alloc (.cells #[.int .i64 0, .int .i64 0, .int .i64 0] 26)).heap[w.heap.size + 1]? = some (.cells #[.int .i64 0, .int .i64 0, .int .i64 0] 26 (0, 0)) := by
    have := blk_new (w.alloc (.cells #[.slice none 0 0] 23)) (.cells #[.int .i64 0, .int .i64 0, .int .i64 0] 26)
    rw [World.size_alloc] at this
    exact this
  have hb2 : Below w.heap.size w ((w.alloc (.cells #[.slice none 0 0] 23)).alloc (.cells #[.int .i64 0, .int .i64 0, .int .i64 0] 26)) := ((Below.refl _ w).alloc (Nat.le_refl _) _).alloc (by simp) _
  generalize (w.alloc (.cells #[.slice none 0 0] 23)).alloc (.cells #[.int .i64 0, .int .i64 0, .int .i64 0] 26) = W at *
  have c1 : W.cell? ⟨w.heap.size, 0, none⟩ = some (.slice none 0 0) := blk_cell hl2 0
  have f1 := blk_frozen hl2 0
  have c20 : W.cell? ⟨w.heap.size + 1, 0, none⟩ = some (.int .i64 0) := blk_cell hf2 0
  have c21 : W.cell? ⟨w.heap.size + 1, 1, none⟩ = some (.int .i64 0) := blk_cell hf2 1
  have c22 : W.cell? ⟨w.heap.size + 1, 2, none⟩ = some (.int .i64 0) := blk_cell hf2 2
  have f20 := blk_frozen hf2 0
  have f21 := blk_frozen hf2 1
  have f22 := blk_frozen hf2 2
  refine wpK_seq (wpK_of ?_)
  gi_wp2
  have k1 := blk_far (blk_far (blk_far (blk_put hl2 0 (.slice none 0 0) rfl) (p := ⟨w.heap.size + 1, 0, none⟩) (by simp) (.int .i64 4)) (p := ⟨w.heap.size + 1, 1, none⟩) (by simp) (.int .i64 0)) (p := ⟨w.heap.size + 1, 2, none⟩) (by simp) (.int .i64 0)
  have hf0 := blk_far hf2 (p := ⟨w.heap.size, 0, none⟩) (by simp) (.slice none 0 0)
  have hf1 := blk_put hf0 0 (.int .i64 4) rfl
  have hf2' := blk_put hf1 1 (.int .i64 0) rfl
  have hf3 := blk_put hf2' 2 (.int .i64 0) rfl
  have hb4 := (((hb2.setCell (p := ⟨w.heap.size, 0, none⟩) (Nat.le_refl _) (.slice none 0 0)).setCell (p := ⟨w.heap.size + 1, 0, none⟩) (Nat.le_succ _) (.int .i64 4)).setCell (p := ⟨w.heap.size + 1, 1, none⟩) (Nat.le_succ _) (.int .i64 0)).setCell (p := ⟨w.heap.size + 1, 2, none⟩) (Nat.le_succ _) (.int .i64 0)
  generalize (((W.setCell ⟨w.heap.size, 0, none⟩ (.slice none 0 0)).setCell ⟨w.heap.size + 1, 0, none⟩ (.int .i64 4)).setCell ⟨w.heap.size + 1, 1, none⟩ (.int .i64 0)).setCell ⟨w.heap.size + 1, 2, none⟩ (.int .i64 0) = w' at *
  have e1 : w'.cell? ⟨w.heap.size, 0, none⟩ = some (.slice none 0 0) := blk_cell k1 0
  have e20 : w'.cell? ⟨w.heap.size + 1, 0, none⟩ = some (.int .i64 4) := blk_cell hf3 0
  have e21 : w'.cell? ⟨w.heap.size + 1, 1, none⟩ = some (.int .i64 0) := blk_cell hf3 1
  have e22 : w'.cell? ⟨w.heap.size + 1, 2, none⟩ = some (.int .i64 0) := blk_cell hf3 2
  exact ⟨_, by simp [results, Tryd.results8, go_sem, e1, e20, e21, e22], .slice none 0 0, rfl, Kd.V_mk (xs := []) (Nat.le_refl _) (Kd.F_nil _ _ _), hb4⟩
theorem lex_Lex.calls (a0 : ByteArray) (r0 : List S36) (r1 r2 r3 : Int) (w : World) (hG : Glob w) (h : lex_Lex.f a0 = some (r0, r1, r2, r3)) :
    Calls Tryd.prog 8 #[.string a0] w fun e w' => ∃ v0_ : Value, e = .returned (.tuple #[v0_, .agg #[.int .i64 r1, .int .i64 r2, .int .i64 r3]]) ∧ Kd.V k36 36 w' w.heap.size (fun k_ => (w.heap.size ≤ k_)) v0_ r0 ∧ Below w.heap.size w w' := by
  unfold lex_Lex.f at h
  by_cases hs : 65536 < a0.size
  · rw [if_pos hs] at h
    simp only [Option.some.injEq, Prod.mk.injEq] at h
    obtain ⟨rfl, rfl, rfl, rfl⟩ := h
    exact callsIn_wide.1 (lex_long a0 hs w)
  · rw [if_neg hs] at h
    have hc := callsIn_wide.1 (lex_calls a0 (by omega) w hG)
    cases hk : lexF a0 with
    | ok l =>
      rw [hk] at h hc
      simp only [Option.some.injEq, Prod.mk.injEq] at h
      obtain ⟨rfl, rfl, rfl, rfl⟩ := h
      exact hc
    | error t =>
      obtain ⟨e, n, i⟩ := t
      rw [hk] at h hc
      simp only [Option.some.injEq, Prod.mk.injEq] at h
      obtain ⟨rfl, rfl, rfl, rfl⟩ := h
      exact hc
end Go.Proofs.YtfndanccnjggfaaDoor.Q
/- What is proved: strings.Builder's methods WriteString, WriteRune, String, Len, as this program has them. -/
namespace Go.Proofs.YtfndanccnjggfaaDoor.Q
open Go.RowKit
set_option linter.unusedVariables false
set_option linter.unusedSimpArgs false
set_option maxHeartbeats 8000000 in
set_option maxRecDepth 1000000 in
theorem utf8F_appendRuneNonASCII_two (B : Nat) (v : Value) (n : Nat) (xs : List Value) (r : Int) (h0 : 128 ≤ r) (h1 : r ≤ 2047) (w : World) (hown : w.ownsRowF B 5 1 v n xs) (hlen : n + 4 ≤ 140737488355328) (hBw : B ≤ w.heap.size) :
    Calls Tryd.prog 64 #[v, .int .i32 r] w fun e w' => ∃ v', e = .returned v' ∧ w'.ownsRowF B 5 1 v' (n + 2) (xs ++ [.int .u8 (192 + r / 64), .int .u8 (128 + r % 64)]) ∧ ∃ o, (w.alloc o).grownBy w' v.ownBlock := by
  obtain ⟨i0, hi, hz0, hz1, hz2⟩ := info_parts infoB
  go_enter Tryd.func64, Tryd.ntmps64
  go_wp2_with (at_builtin; refine wpList_append_ownF _ rfl _ _ 51 rfl B 5 i0 (.int .u8 0) 1 1 Tryd.underlying51 hi hz0 hz1 hz2 rfl (by decide) _ _ _ rfl (hown.alloc _) ⟨w.heap.size, 0, none⟩ 2 2 [.int .u8 (192 + r / 64), .int .u8 (128 + r % 64)] rfl rfl ?c1 ?c2 ?c3 ?c4 ?c5 ?_)
  case c1 =>
    intro j u hj
    match j, hj with
    | 0, hj => simp at hj; subst hj; simp [Addr.add]
    | 1, hj => simp at hj; subst hj; simp [Addr.add]
    | (j + 2), hj => simp at hj
  case c2 => intro u hu; simp at hu; rcases hu with rfl | rfl <;> rfl
  case c3 => unfold maxLen; omega
  case c4 => omega
  case c5 => simp; omega
  intro v' w2 hown' hgrow _
  go_wp2
  go_ret
  exact ⟨_, rfl, hown', _, hgrow⟩
set_option maxHeartbeats 8000000 in
set_option maxRecDepth 1000000 in
theorem utf8F_appendRuneNonASCII_three_lo (B : Nat) (v : Value) (n : Nat) (xs : List Value) (r : Int) (h0 : 2048 ≤ r) (h1 : r < 55296) (w : World) (hown : w.ownsRowF B 5 1 v n xs) (hlen : n + 4 ≤ 140737488355328) (hBw : B ≤ w.heap.size) :
    Calls Tryd.prog 64 #[v, .int .i32 r] w fun e w' => ∃ v', e = .returned v' ∧ w'.ownsRowF B 5 1 v' (n + 3) (xs ++ [.int .u8 (224 + r / 4096), .int .u8 (128 + r / 64 % 64), .int .u8 (128 + r % 64)]) ∧ ∃ o, (w.alloc o).grownBy w' v.ownBlock := by
  obtain ⟨i0, hi, hz0, hz1, hz2⟩ := info_parts infoB
  go_enter Tryd.func64, Tryd.ntmps64
  go_wp2_with (at_builtin; refine wpList_append_ownF _ rfl _ _ 51 rfl B 5 i0 (.int .u8 0) 1 1 Tryd.underlying51 hi hz0 hz1 hz2 rfl (by decide) _ _ _ rfl (hown.alloc _) ⟨w.heap.size, 0, none⟩ 3 3 [.int .u8 (224 + r / 4096), .int .u8 (128 + r / 64 % 64), .int .u8 (128 + r % 64)] rfl rfl ?c1 ?c2 ?c3 ?c4 ?c5 ?_)
  case c1 =>
    intro j u hj
    match j, hj with
    | 0, hj => simp at hj; subst hj; simp [Addr.add]
    | 1, hj => simp at hj; subst hj; simp [Addr.add]
    | 2, hj => simp at hj; subst hj; simp [Addr.add]
    | (j + 3), hj => simp at hj
  case c2 => intro u hu; simp at hu; rcases hu with rfl | rfl | rfl <;> rfl
  case c3 => unfold maxLen; omega
  case c4 => omega
  case c5 => simp; omega
  intro v' w2 hown' hgrow _
  go_wp2
  go_ret
  exact ⟨_, rfl, hown', _, hgrow⟩
set_option maxHeartbeats 8000000 in
set_option maxRecDepth 1000000 in
theorem utf8F_appendRuneNonASCII_three_hi (B : Nat) (v : Value) (n : Nat) (xs : List Value) (r : Int) (h0 : 57343 < r) (h1 : r ≤ 65535) (w : World) (hown : w.ownsRowF B 5 1 v n xs) (hlen : n + 4 ≤ 140737488355328) (hBw : B ≤ w.heap.size) :
    Calls Tryd.prog 64 #[v, .int .i32 r] w fun e w' => ∃ v', e = .returned v' ∧ w'.ownsRowF B 5 1 v' (n + 3) (xs ++ [.int .u8 (224 + r / 4096), .int .u8 (128 + r / 64 % 64), .int .u8 (128 + r % 64)]) ∧ ∃ o, (w.alloc o).grownBy w' v.ownBlock := by
  obtain ⟨i0, hi, hz0, hz1, hz2⟩ := info_parts infoB
  go_enter Tryd.func64, Tryd.ntmps64
  go_wp2_with (at_builtin; refine wpList_append_ownF _ rfl _ _ 51 rfl B 5 i0 (.int .u8 0) 1 1 Tryd.underlying51 hi hz0 hz1 hz2 rfl (by decide) _ _ _ rfl (hown.alloc _) ⟨w.heap.size, 0, none⟩ 3 3 [.int .u8 (224 + r / 4096), .int .u8 (128 + r / 64 % 64), .int .u8 (128 + r % 64)] rfl rfl ?c1 ?c2 ?c3 ?c4 ?c5 ?_)
  case c1 =>
    intro j u hj
    match j, hj with
    | 0, hj => simp at hj; subst hj; simp [Addr.add]
    | 1, hj => simp at hj; subst hj; simp [Addr.add]
    | 2, hj => simp at hj; subst hj; simp [Addr.add]
    | (j + 3), hj => simp at hj
  case c2 => intro u hu; simp at hu; rcases hu with rfl | rfl | rfl <;> rfl
  case c3 => unfold maxLen; omega
  case c4 => omega
  case c5 => simp; omega
  intro v' w2 hown' hgrow _
  go_wp2
  go_ret
  exact ⟨_, rfl, hown', _, hgrow⟩
set_option maxHeartbeats 8000000 in
set_option maxRecDepth 1000000 in
theorem utf8F_appendRuneNonASCII_four (B : Nat) (v : Value) (n : Nat) (xs : List Value) (r : Int) (h0 : 65536 ≤ r) (h1 : r ≤ 1114111) (w : World) (hown : w.ownsRowF B 5 1 v n xs) (hlen : n + 4 ≤ 140737488355328) (hBw : B ≤ w.heap.size) :
    Calls Tryd.prog 64 #[v, .int .i32 r] w fun e w' => ∃ v', e = .returned v' ∧ w'.ownsRowF B 5 1 v' (n + 4) (xs ++ [.int .u8 (240 + r / 262144), .int .u8 (128 + r / 4096 % 64), .int .u8 (128 + r / 64 % 64), .int .u8 (128 + r % 64)]) ∧ ∃ o, (w.alloc o).grownBy w' v.ownBlock := by
  obtain ⟨i0, hi, hz0, hz1, hz2⟩ := info_parts infoB
  go_enter Tryd.func64, Tryd.ntmps64
  go_wp2_with (at_builtin; refine wpList_append_ownF _ rfl _ _ 51 rfl B 5 i0 (.int .u8 0) 1 1 Tryd.underlying51 hi hz0 hz1 hz2 rfl (by decide) _ _ _ rfl (hown.alloc _) ⟨w.heap.size, 0, none⟩ 4 4 [.int .u8 (240 + r / 262144), .int .u8 (128 + r / 4096 % 64), .int .u8 (128 + r / 64 % 64), .int .u8 (128 + r % 64)] rfl rfl ?c1 ?c2 ?c3 ?c4 ?c5 ?_)
  case c1 =>
    intro j u hj
    match j, hj with
    | 0, hj => simp at hj; subst hj; simp [Addr.add]
    | 1, hj => simp at hj; subst hj; simp [Addr.add]
    | 2, hj => simp at hj; subst hj; simp [Addr.add]
    | 3, hj => simp at hj; subst hj; simp [Addr.add]
    | (j + 4), hj => simp at hj
  case c2 => intro u hu; simp at hu; rcases hu with rfl | rfl | rfl | rfl <;> rfl
  case c3 => unfold maxLen; omega
  case c4 => omega
  case c5 => simp; omega
  intro v' w2 hown' hgrow _
  go_wp2
  go_ret
  exact ⟨_, rfl, hown', _, hgrow⟩
set_option maxHeartbeats 8000000 in
set_option maxRecDepth 1000000 in
theorem utf8F_appendRuneNonASCII_bad_neg (B : Nat) (v : Value) (n : Nat) (xs : List Value) (r : Int) (h0 : -2147483648 ≤ r) (h1 : r < 0) (w : World) (hown : w.ownsRowF B 5 1 v n xs) (hlen : n + 4 ≤ 140737488355328) (hBw : B ≤ w.heap.size) :
    Calls Tryd.prog 64 #[v, .int .i32 r] w fun e w' => ∃ v', e = .returned v' ∧ w'.ownsRowF B 5 1 v' (n + 3) (xs ++ [.int .u8 (239), .int .u8 (191), .int .u8 (189)]) ∧ ∃ o, (w.alloc o).grownBy w' v.ownBlock := by
  obtain ⟨i0, hi, hz0, hz1, hz2⟩ := info_parts infoB
  go_enter Tryd.func64, Tryd.ntmps64
  go_wp2_with (at_builtin; refine wpList_append_ownF _ rfl _ _ 51 rfl B 5 i0 (.int .u8 0) 1 1 Tryd.underlying51 hi hz0 hz1 hz2 rfl (by decide) _ _ _ rfl (hown.alloc _) ⟨w.heap.size, 0, none⟩ 3 3 [.int .u8 (239), .int .u8 (191), .int .u8 (189)] rfl rfl ?c1 ?c2 ?c3 ?c4 ?c5 ?_)
  case c1 =>
    intro j u hj
    match j, hj with
    | 0, hj => simp at hj; subst hj; simp [Addr.add]
    | 1, hj => simp at hj; subst hj; simp [Addr.add]
    | 2, hj => simp at hj; subst hj; simp [Addr.add]
    | (j + 3), hj => simp at hj
  case c2 => intro u hu; simp at hu; rcases hu with rfl | rfl | rfl <;> rfl
  case c3 => unfold maxLen; omega
  case c4 => omega
  case c5 => simp; omega
  intro v' w2 hown' hgrow _
  go_wp2
  go_ret
  exact ⟨_, rfl, hown', _, hgrow⟩
set_option maxHeartbeats 8000000 in
set_option maxRecDepth 1000000 in
theorem utf8F_appendRuneNonASCII_bad_sur (B : Nat) (v : Value) (n : Nat) (xs : List Value) (r : Int) (h0 : 55296 ≤ r) (h1 : r ≤ 57343) (w : World) (hown : w.ownsRowF B 5 1 v n xs) (hlen : n + 4 ≤ 140737488355328) (hBw : B ≤ w.heap.size) :
    Calls Tryd.prog 64 #[v, .int .i32 r] w fun e w' => ∃ v', e = .returned v' ∧ w'.ownsRowF B 5 1 v' (n + 3) (xs ++ [.int .u8 (239), .int .u8 (191), .int .u8 (189)]) ∧ ∃ o, (w.alloc o).grownBy w' v.ownBlock := by
  obtain ⟨i0, hi, hz0, hz1, hz2⟩ := info_parts infoB
  go_enter Tryd.func64, Tryd.ntmps64
  go_wp2_with (at_builtin; refine wpList_append_ownF _ rfl _ _ 51 rfl B 5 i0 (.int .u8 0) 1 1 Tryd.underlying51 hi hz0 hz1 hz2 rfl (by decide) _ _ _ rfl (hown.alloc _) ⟨w.heap.size, 0, none⟩ 3 3 [.int .u8 (239), .int .u8 (191), .int .u8 (189)] rfl rfl ?c1 ?c2 ?c3 ?c4 ?c5 ?_)
  all_goals first
    | (intro v' w2 hown' hgrow _; go_wp2; go_ret; exact ⟨_, rfl, hown', _, hgrow⟩)
    | (unfold maxLen; omega)
    | omega
    | (simp; omega)
    | exact ⟨rfl, rfl, rfl⟩
    | (intro u hu; simp at hu; rcases hu with rfl | rfl | rfl <;> rfl)
    | (intro j u hj
       match j, hj with
       | 0, hj => simp at hj; subst hj; simp [Addr.add]
       | 1, hj => simp at hj; subst hj; simp [Addr.add]
       | 2, hj => simp at hj; subst hj; simp [Addr.add]
       | (j + 3), hj => simp at hj)
set_option maxHeartbeats 8000000 in
set_option maxRecDepth 1000000 in
theorem utf8F_appendRuneNonASCII_bad_big (B : Nat) (v : Value) (n : Nat) (xs : List Value) (r : Int) (h0 : 1114111 < r) (h1 : r ≤ 2147483647) (w : World) (hown : w.ownsRowF B 5 1 v n xs) (hlen : n + 4 ≤ 140737488355328) (hBw : B ≤ w.heap.size) :
    Calls Tryd.prog 64 #[v, .int .i32 r] w fun e w' => ∃ v', e = .returned v' ∧ w'.ownsRowF B 5 1 v' (n + 3) (xs ++ [.int .u8 (239), .int .u8 (191), .int .u8 (189)]) ∧ ∃ o, (w.alloc o).grownBy w' v.ownBlock := by
  obtain ⟨i0, hi, hz0, hz1, hz2⟩ := info_parts infoB
  go_enter Tryd.func64, Tryd.ntmps64
  go_wp2_with (at_builtin; refine wpList_append_ownF _ rfl _ _ 51 rfl B 5 i0 (.int .u8 0) 1 1 Tryd.underlying51 hi hz0 hz1 hz2 rfl (by decide) _ _ _ rfl (hown.alloc _) ⟨w.heap.size, 0, none⟩ 3 3 [.int .u8 (239), .int .u8 (191), .int .u8 (189)] rfl rfl ?c1 ?c2 ?c3 ?c4 ?c5 ?_)
  case c1 =>
    intro j u hj
    match j, hj with
    | 0, hj => simp at hj; subst hj; simp [Addr.add]
    | 1, hj => simp at hj; subst hj; simp [Addr.add]
    | 2, hj => simp at hj; subst hj; simp [Addr.add]
    | (j + 3), hj => simp at hj
  case c2 => intro u hu; simp at hu; rcases hu with rfl | rfl | rfl <;> rfl
  case c3 => unfold maxLen; omega
  case c4 => omega
  case c5 => simp; omega
  intro v' w2 hown' hgrow _
  go_wp2
  go_ret
  exact ⟨_, rfl, hown', _, hgrow⟩
set_option maxHeartbeats 8000000 in
set_option maxRecDepth 1000000 in
theorem utf8F_appendRuneNonASCII (B : Nat) (v : Value) (n : Nat) (xs : List Value) (r : Int) (hr0 : -2147483648 ≤ r) (hr1 : r ≤ 2147483647) (hna : r < 0 ∨ 128 ≤ r) (w : World) (hown : w.ownsRowF B 5 1 v n xs) (hlen : n + 4 ≤ 140737488355328) (hBw : B ≤ w.heap.size) :
    Calls Tryd.prog 64 #[v, .int .i32 r] w fun e w' => ∃ v', e = .returned v' ∧ w'.ownsRowF B 5 1 v' (n + (Lib.runeCells r).length) (xs ++ Lib.runeCells r) ∧ ∃ o, (w.alloc o).grownBy w' v.ownBlock := by
  by_cases c0 : r < 0
  · rw [show Lib.runeCells r = [.int .u8 239, .int .u8 191, .int .u8 189] by simp [Lib.runeCells, Lib.encodeRuneZ_bad (Or.inl c0)]]
    exact utf8F_appendRuneNonASCII_bad_neg B v n xs r hr0 c0 w hown hlen hBw
  by_cases c1 : r ≤ 2047
  · rw [show Lib.runeCells r = [.int .u8 (192 + r / 64), .int .u8 (128 + r % 64)] by simp [Lib.runeCells, Lib.encodeRuneZ_two (by omega) c1]]
    exact utf8F_appendRuneNonASCII_two B v n xs r (by omega) c1 w hown hlen hBw
  by_cases c2 : r < 55296
  · rw [show Lib.runeCells r = [.int .u8 (224 + r / 4096), .int .u8 (128 + r / 64 % 64), .int .u8 (128 + r % 64)] by simp [Lib.runeCells, Lib.encodeRuneZ_three (Or.inl ⟨by omega, c2⟩)]]
    exact utf8F_appendRuneNonASCII_three_lo B v n xs r (by omega) c2 w hown hlen hBw
  by_cases c3 : r ≤ 57343
  · rw [show Lib.runeCells r = [.int .u8 239, .int .u8 191, .int .u8 189] by simp [Lib.runeCells, Lib.encodeRuneZ_bad (Or.inr (Or.inl ⟨by omega, c3⟩))]]
    exact utf8F_appendRuneNonASCII_bad_sur B v n xs r (by omega) c3 w hown hlen hBw
  by_cases c4 : r ≤ 65535
  · rw [show Lib.runeCells r = [.int .u8 (224 + r / 4096), .int .u8 (128 + r / 64 % 64), .int .u8 (128 + r % 64)] by simp [Lib.runeCells, Lib.encodeRuneZ_three (Or.inr ⟨by omega, c4⟩)]]
    exact utf8F_appendRuneNonASCII_three_hi B v n xs r (by omega) c4 w hown hlen hBw
  by_cases c5 : r ≤ 1114111
  · rw [show Lib.runeCells r = [.int .u8 (240 + r / 262144), .int .u8 (128 + r / 4096 % 64), .int .u8 (128 + r / 64 % 64), .int .u8 (128 + r % 64)] by simp [Lib.runeCells, Lib.encodeRuneZ_four (by omega) c5]]
    exact utf8F_appendRuneNonASCII_four B v n xs r (by omega) c5 w hown hlen hBw
  · rw [show Lib.runeCells r = [.int .u8 239, .int .u8 191, .int .u8 189] by simp [Lib.runeCells, Lib.encodeRuneZ_bad (r := r) (Or.inr (Or.inr (by omega)))]]
    exact utf8F_appendRuneNonASCII_bad_big B v n xs r (by omega) hr1 w hown hlen hBw
set_option maxHeartbeats 8000000 in
set_option maxRecDepth 1000000 in
theorem utf8F_AppendRune_ascii (B : Nat) (v : Value) (n : Nat) (xs : List Value) (r : Int) (h0 : 0 ≤ r) (h1 : r ≤ 127) (w : World) (hown : w.ownsRowF B 5 1 v n xs) (hlen : n + 4 ≤ 140737488355328) (hBw : B ≤ w.heap.size) :
    Calls Tryd.prog 50 #[v, .int .i32 r] w fun e w' => ∃ v', e = .returned v' ∧ w'.ownsRowF B 5 1 v' (n + 1) (xs ++ [.int .u8 r]) ∧ ∃ o, (w.alloc o).grownBy w' v.ownBlock := by
  obtain ⟨i0, hi, hz0, hz1, hz2⟩ := info_parts infoB
  go_enter Tryd.func50, Tryd.ntmps50
  go_wp2_with (at_builtin; refine wpList_append_ownF _ rfl _ _ 51 rfl B 5 i0 (.int .u8 0) 1 1 Tryd.underlying51 hi hz0 hz1 hz2 rfl (by decide) _ _ _ rfl (hown.alloc _) ⟨w.heap.size, 0, none⟩ 1 1 [.int .u8 r] rfl rfl ?c1 ?c2 ?c3 ?c4 ?c5 ?_)
  all_goals first
    | (intro v' w2 hown' hgrow _; go_wp2; go_ret; exact ⟨_, rfl, hown', _, hgrow⟩)
    | (unfold maxLen; omega)
    | omega
    | (simp; omega)
    | rfl
    | (intro u hu; simp at hu; subst hu; rfl)
    | (intro j u hj
       match j, hj with
       | 0, hj => simp at hj; subst hj; simp [Addr.add]
       | (j + 1), hj => simp at hj)
set_option maxHeartbeats 8000000 in
set_option maxRecDepth 1000000 in
theorem utf8F_AppendRune_other (B : Nat) (v : Value) (n : Nat) (xs : List Value) (r : Int) (hr0 : -2147483648 ≤ r) (hr1 : r ≤ 2147483647) (hna : r < 0 ∨ 128 ≤ r) (w : World) (hown : w.ownsRowF B 5 1 v n xs) (hlen : n + 4 ≤ 140737488355328) (hBw : B ≤ w.heap.size) :
    Calls Tryd.prog 50 #[v, .int .i32 r] w fun e w' => ∃ v', e = .returned v' ∧ w'.ownsRowF B 5 1 v' (n + (Lib.runeCells r).length) (xs ++ Lib.runeCells r) ∧ ∃ o, (w.alloc o).grownBy w' v.ownBlock := by
  rcases hna with hna | hna
  all_goals
    go_enter Tryd.func50, Tryd.ntmps50
    go_wp2_with (go_at_call 64; refine (utf8F_appendRuneNonASCII B v n xs r hr0 hr1 (by omega) _ hown hlen hBw).mono ?_)
    rintro e w1 ⟨v', rfl, h1, o, h2⟩
    go_wp2
    go_ret
    exact ⟨_, rfl, h1, o, h2⟩
set_option maxHeartbeats 8000000 in
set_option maxRecDepth 1000000 in
theorem utf8F_AppendRune_own (B : Nat) (v : Value) (n : Nat) (xs : List Value) (r : Int) (hr0 : -2147483648 ≤ r) (hr1 : r ≤ 2147483647) (w : World) (hown : w.ownsRowF B 5 1 v n xs) (hlen : n + 4 ≤ 140737488355328) (hBw : B ≤ w.heap.size) :
    Calls Tryd.prog 50 #[v, .int .i32 r] w fun e w' => ∃ v', e = .returned v' ∧ w'.ownsRowF B 5 1 v' (n + (Lib.runeCells r).length) (xs ++ Lib.runeCells r) ∧ ∃ o, (w.alloc o).grownBy w' v.ownBlock := by
  by_cases c : 0 ≤ r ∧ r ≤ 127
  · rw [show Lib.runeCells r = [.int .u8 r] by simp [Lib.runeCells, Lib.encodeRuneZ_one c.1 c.2]]
    exact utf8F_AppendRune_ascii B v n xs r c.1 c.2 w hown hlen hBw
  · exact utf8F_AppendRune_other B v n xs r hr0 hr1 (by omega) w hown hlen hBw
set_option maxHeartbeats 8000000 in
set_option maxRecDepth 1000000 in
theorem Builder_WriteString_k (B b : Nat) (bs : List Value) (s : ByteArray) (w : World) (h : IsB B b bs w) (hlen : bs.length + s.size ≤ 140737488355328) (hBw : B ≤ w.heap.size) :
    Calls Tryd.prog 24 #[.pointer (some ⟨b, 0, none⟩), .string s] w fun e w' => e = .returned (.tuple #[.int .i64 s.size, .nilIface]) ∧ (AtB B b (bs ++ Lib.strCells s) w' ∧ Below B w w' ∧ Lib.OthersKept 5 (some b) w w') := by
  obtain ⟨i0, hi, hz0, hz1, hz2⟩ := info_parts infoB
  go_enter Tryd.func24, Tryd.ntmps24
  go_wp2_with (go_at_call 42; refine (copyCheck_calls B b bs _ h).mono ?_)
  rintro e w1 ⟨rfl, h1, hb1, hk1⟩
  obtain ⟨hB, v, hbk, hown, hne⟩ := h1
  have c0 : w1.cell? ⟨b, 0, none⟩ = some (.pointer (some ⟨b, 0, none⟩)) := by rw [Lib.cell_of_heap hbk]; rfl
  have c1 : w1.cell? ⟨b, 1, none⟩ = some v := by rw [Lib.cell_of_heap hbk]; rfl
  go_wp2_with (at_builtin; refine Lib.wpList_append_own_stringF _ rfl _ _ 51 9 rfl B 5 i0 Tryd.underlying51 Tryd.underlying9 hi hz0 hz1 hz2 _ _ _ rfl hown s rfl ?c3 ?c4 ?c5 ?_)
  case c3 => unfold maxLen; omega
  case c4 => omega
  case c5 => have := hb1.size; omega
  intro v' w2 hown' hgrow _
  have hlt : b < w1.heap.size := by
    rcases Nat.lt_or_ge b w1.heap.size with h' | h'
    · exact h'
    · simp [Array.getElem?_eq_none h'] at hbk
  have hb2 : w2.heap[b]? = some (.cells #[.pointer (some ⟨b, 0, none⟩), v] 53 (0, 0)) := by
    rw [hgrow.block b hlt (fun e => hne e.symm)]
    exact hbk
  have d0 : w2.cell? ⟨b, 0, none⟩ = some (.pointer (some ⟨b, 0, none⟩)) := by rw [Lib.cell_of_heap hb2]; rfl
  have d1 : w2.cell? ⟨b, 1, none⟩ = some v := by rw [Lib.cell_of_heap hb2]; rfl
  have f1 : w2.frozen? ⟨b, 1, none⟩ = false := Lib.frozen_of_heap hb2 1
  obtain ⟨ao, n', cap, rfl⟩ : ∃ ao n' cap, v' = .slice ao n' cap := by
    rcases hown'.2 with ⟨hv, _⟩ | ⟨g, cap, cur, fz, hv, _⟩
    · exact ⟨_, _, _, hv⟩
    · exact ⟨_, _, _, hv⟩
  go_wp2
  go_ret2
  refine ⟨rfl, ?_, ?_, (hk1.grown hgrow (Lib.ownsRowF_kind hown)).setCell ⟨b, 1, none⟩ rfl _⟩
  · exact Lib.BuilderAtF.put (T := 53) (e := 5) hB hb2 (bs' := bs ++ Lib.strCells s) (by simpa [Lib.strCells_length] using hown') (by decide)
  · exact (hb1.grown hgrow (by have := hb1.size; omega) (fun k hk => (hown.lt k hk).1)).setCell (p := ⟨b, 1, none⟩) hB _
set_option maxHeartbeats 8000000 in
set_option maxRecDepth 1000000 in
theorem Builder_WriteRune_k (B b : Nat) (bs : List Value) (r : Int) (hr0 : -2147483648 ≤ r) (hr1 : r ≤ 2147483647) (w : World) (h : IsB B b bs w) (hlen : bs.length + 4 ≤ 140737488355328) (hBw : B ≤ w.heap.size) :
    Calls Tryd.prog 43 #[.pointer (some ⟨b, 0, none⟩), .int .i32 r] w fun e w' => e = .returned (.tuple #[.int .i64 (Lib.runeCells r).length, .nilIface]) ∧ (AtB B b (bs ++ Lib.runeCells r) w' ∧ Below B w w' ∧ Lib.OthersKept 5 (some b) w w') := by
  have hk4 := Lib.runeCells_le r
  go_enter Tryd.func43, Tryd.ntmps43
  go_wp2_with (go_at_call 42; refine (copyCheck_calls B b bs _ h).mono ?_)
  rintro e w1 ⟨rfl, h1, hb1, hk1⟩
  obtain ⟨hB, v, hbk, hown, hne⟩ := h1
  obtain ⟨ao, cap, rfl⟩ : ∃ ao cap, v = .slice ao bs.length cap := by
    rcases hown.2 with ⟨hv, h0⟩ | ⟨g, cap, cur, fz, hv, _⟩
    · exact ⟨none, 0, by rw [hv, h0]⟩
    · exact ⟨_, _, hv⟩
  have c0 : w1.cell? ⟨b, 0, none⟩ = some (.pointer (some ⟨b, 0, none⟩)) := by rw [Lib.cell_of_heap hbk]; rfl
  have c1 : w1.cell? ⟨b, 1, none⟩ = some (.slice ao bs.length cap) := by rw [Lib.cell_of_heap hbk]; rfl
  go_wp2_with (go_at_call 50; refine (utf8F_AppendRune_own B _ bs.length bs r hr0 hr1 _ hown hlen (by have := hb1.size; omega)).mono ?_)
  rintro e w2 ⟨v', rfl, hown', o, hgrow⟩
  have hlt : b < w1.heap.size := by
    rcases Nat.lt_or_ge b w1.heap.size with h' | h'
    · exact h'
    · simp [Array.getElem?_eq_none h'] at hbk
  have hb2 : w2.heap[b]? = some (.cells #[.pointer (some ⟨b, 0, none⟩), .slice ao bs.length cap] 53 (0, 0)) := by
    rw [hgrow.block b (by simp; omega) (fun e => hne e.symm), Lib.alloc_old w1 _ b hlt]
    exact hbk
  have d0 : w2.cell? ⟨b, 0, none⟩ = some (.pointer (some ⟨b, 0, none⟩)) := by rw [Lib.cell_of_heap hb2]; rfl
  have d1 : w2.cell? ⟨b, 1, none⟩ = some (.slice ao bs.length cap) := by rw [Lib.cell_of_heap hb2]; rfl
  have f1 : w2.frozen? ⟨b, 1, none⟩ = false := Lib.frozen_of_heap hb2 1
  obtain ⟨g, cap', rfl⟩ : ∃ g cap', v' = .slice (some ⟨g, 0, none⟩) (bs.length + (Lib.runeCells r).length) cap' := by
    rcases hown'.2 with ⟨_, h0⟩ | ⟨g, cap', cur, fz, hv, _⟩
    · omega
    · exact ⟨g, cap', hv⟩
  go_wp2
  go_ret2
  refine ⟨?_, ?_, ?_, ((hk1.alloc _).grown hgrow (Lib.ownsRowF_kind (hown.alloc _))).setCell ⟨b, 1, none⟩ rfl _⟩
  · have e : ((bs.length : Int) + ((Lib.runeCells r).length : Int) - (bs.length : Int)) = ((Lib.runeCells r).length : Int) := by omega
    simp [e]
  · exact Lib.BuilderAtF.put (T := 53) (e := 5) hB hb2 (bs' := bs ++ Lib.runeCells r) (by simpa using hown') (by decide)
  · exact ((hb1.alloc (by have := hb1.size; omega) _).grown hgrow (by have := hb1.size; simp; omega) (fun k hk => (hown.lt k hk).1)).setCell (p := ⟨b, 1, none⟩) hB _
theorem extraB : Builder.Extra Tryd.prog Tryd.lays169_ren where
  sizeBuilder := by kernel_rfl
  liesBuilder := by kernel_rfl
  t5 := Tryd.underlying5
  a5 := Tryd.isAgg5
  z5 := Tryd.sizeOf5
  v5 := Tryd.zeroValue5
  infoByte := by kernel_rfl
  cellsByte := by kernel_rfl
  sizeByte := by kernel_rfl
  neB5 := by decide
theorem String_calls (B b : Nat) (l : List UInt8) (w : World) (h : IsB B b (Lib.byteCells l) w) (hBw : B ≤ w.heap.size) :
    Calls Tryd.prog 27 #[.pointer (some ⟨b, 0, none⟩)] w fun e w' => e = .returned (.string ⟨l.toArray⟩) ∧ (IsB B b (Lib.byteCells l) w' ∧ Below B w w' ∧ Lib.OthersKept 5 (some b) w w') :=
  Any.Builder_String_any_k (P := Tryd.prog) (ρ := Tryd.lays169_ren) Tryd.lays169 extraB B b l w h hBw
set_option maxHeartbeats 2000000 in
theorem Len_calls (B b : Nat) (bs : List Value) (w : World) (h : IsB B b bs w) :
    Calls Tryd.prog 26 #[.pointer (some ⟨b, 0, none⟩)] w fun e w' => e = .returned (.int .i64 (bs.length : Int)) ∧ w' = w := by
  obtain ⟨v, hc, hv⟩ : ∃ v, w.cell? ⟨b, 1, none⟩ = some v ∧ ∃ a c, v = .slice a bs.length c := by
    have key : ∀ p, Lib.BuilderAtF 53 5 B b p bs w → ∃ v, w.cell? ⟨b, 1, none⟩ = some v ∧ ∃ a c, v = .slice a bs.length c := by
      rintro p ⟨hB, v, hbk, hown, hne⟩
      refine ⟨v, by rw [Lib.cell_of_heap hbk]; rfl, ?_⟩
      rcases hown.2 with ⟨hv, h0⟩ | ⟨g, cap, cur, fz, hv, _⟩
      · exact ⟨none, 0, by rw [hv, h0]⟩
      · exact ⟨_, _, hv⟩
    rcases h with h | h
    · exact key _ h
    · exact key _ h
  obtain ⟨a, c, rfl⟩ := hv
  go_enter Tryd.func26, Tryd.ntmps26
  go_wp2
  go_ret
  exact ⟨rfl, rfl⟩
end Go.Proofs.YtfndanccnjggfaaDoor.Q
/- What is proved: how a text is quoted. -/
namespace Go.Proofs.YtfndanccnjggfaaDoor.Q
open Go.RowKit Go.Proofs.YtfndanccnjggfaaDoorW.PrintWords Go.Proofs.YtfndanccnjggfaaDoorW.PrintLast Go.Proofs.YtfndanccnjggfaaDoorW.PrintMore
set_option linter.unusedVariables false
set_option linter.unusedSimpArgs false
def hexd (k : Nat) : UInt8 := hex16.data.toList.getD k 0
/-- A rune in quotes. -/
def quote1 (c : Nat) : List UInt8 :=
  if c = 34 ∨ c = 92 then 92 :: Lib.encodeRune (c : Int)
  else if c < 32 ∨ c = 127 then [92, 117, 123] ++ (if 16 ≤ c then [hexd (c / 16)] else []) ++ [hexd (c % 16), 125]
  else Lib.encodeRune (c : Int)
def quoteFrom (s : ByteArray) : Nat → Nat → List UInt8
  | 0, _ => []
  | f + 1, pos => if pos < s.size then quote1 (Utf8.decode s pos).1 ++ quoteFrom s f (pos + (Utf8.decode s pos).2) else []
def quoteL (s : ByteArray) : List UInt8 := 34 :: (quoteFrom s s.size 0 ++ [34])
theorem quoteFrom_end (s : ByteArray) (f pos : Nat) (h : ¬ pos < s.size) : quoteFrom s f pos = [] := by cases f <;> simp [quoteFrom, h]
theorem encodeRune_le (c : Int) : (Lib.encodeRune c).length ≤ 4 := by
  have h := Lib.runeCells_le c
  rw [← Lib.byteCells_encodeRune, Lib.byteCells_length] at h
  exact h.2
theorem quote1_le (c : Nat) : (quote1 c).length ≤ 6 := by
  have := encodeRune_le (c : Int)
  unfold quote1
  split
  · simp; omega
  · split
    · split <;> simp
    · omega
theorem IsB_congr {B b : Nat} {bs bs' : List Value} {w : World} (h : AtB B b bs w) (e : bs = bs') : IsB B b bs' w := by
  subst e
  exact Or.inr h
theorem IsB_of {B b : Nat} {bs bs' : List Value} {w : World} (h : IsB B b bs w) (e : bs = bs') : IsB B b bs' w := e ▸ h
theorem conv92 (acc : List UInt8) (c : Int) : Lib.byteCells acc ++ [.int .u8 92] ++ Lib.runeCells c = Lib.byteCells (acc ++ (92 :: Lib.encodeRune c)) := by
  rw [Lib.byteCells_append, List.append_assoc]
  congr 1
  show _ = Value.int .u8 92 :: Lib.byteCells (Lib.encodeRune c)
  rw [Lib.byteCells_encodeRune]
  rfl
theorem hexd_at (k : Nat) (h : k < (⟨#[48, 49, 50, 51, 52, 53, 54, 55, 56, 57, 97, 98, 99, 100, 101, 102]⟩ : ByteArray).size) : (⟨#[48, 49, 50, 51, 52, 53, 54, 55, 56, 57, 97, 98, 99, 100, 101, 102]⟩ : ByteArray)[k] = hexd k := by
  have : ∀ k : Fin 16, (⟨#[48, 49, 50, 51, 52, 53, 54, 55, 56, 57, 97, 98, 99, 100, 101, 102]⟩ : ByteArray)[k.1]'(k.2) = hexd k.1 := by decide
  exact this ⟨k, h⟩
theorem band15 (c : Nat) (h : c < 32) : bits .and .i32 (c : Int) 15 = ((c % 16 : Nat) : Int) := by
  have := bits_mask .i32 31 (by decide) (fun n h0 h1 => by rw [IntKind.wrap_i32]; omega) 4 (by omega) (c : Int) (by omega) (by omega)
  rw [show ((2 : Int) ^ 4 - 1) = 15 by decide] at this
  rw [this]
  omega
theorem strCells3 : Lib.strCells (⟨#[92, 117, 123]⟩ : ByteArray) = [.int .u8 92, .int .u8 117, .int .u8 123] := rfl
theorem size3 : (⟨#[92, 117, 123]⟩ : ByteArray).size = 3 := rfl
set_option maxHeartbeats 8000000 in
set_option maxRecDepth 1000000 in
theorem quote_calls (s : ByteArray) (w : World) (hs : s.size ≤ 1048576) :
    Calls Tryd.prog 25 #[.string s] w fun e w' => e = .returned (.string ⟨(quoteL s).toArray⟩) ∧ Below w.heap.size w w' := by
  go_enter Tryd.func25, Tryd.ntmps25
  have hI0 : IsB w.heap.size w.heap.size (Lib.byteCells []) (w.alloc (.cells #[.pointer none, .slice none 0 0] 53)) := Lib.IsBuilderF.of (Lib.fresh_isBuilder 53 5 w)
  go_wp2_with (go_at_call 23; refine (WriteByte_calls w.heap.size w.heap.size _ 34 _ hI0 (by rw [Lib.byteCells_length]; simp) (by simp)).mono ?_; rintro e W1 ⟨rfl, h1, b1, k1⟩)
  have hI1 : IsB w.heap.size w.heap.size (Lib.byteCells [34]) W1 := IsB_congr h1 rfl
  have hB1 : Below w.heap.size w W1 := ((Below.refl _ w).alloc (Nat.le_refl _) _).trans b1
  have hlt1 : w.heap.size < W1.heap.size := by have := b1.size; simp at this; omega
  clear h1 k1 b1 hI0
  go_wp2
  go_loopw [] (fun wr => ∃ (pos fuel : Nat) (acc : List UInt8), IsB w.heap.size w.heap.size (Lib.byteCells acc) wr ∧ wr.heap[W1.heap.size]? = some (.stringIter s pos) ∧ Below w.heap.size w wr ∧ acc ++ quoteFrom s fuel pos = 34 :: quoteFrom s s.size 0 ∧ s.size ≤ pos + fuel ∧ acc.length ≤ 1 + 6 * pos ∧ pos ≤ s.size) (fun wr => s.size - wr.iterPos W1.heap.size)
  case atStart =>
    refine ⟨0, s.size, [34], hI1.alloc _, ?_, hB1.alloc (by omega) _, rfl, by omega, by simp, by omega⟩
    have := World.iter_heap W1 s 0
    simpa using this
  case round =>
    obtain ⟨pos, fuel, acc, hI, hit0, hB, hacc, hfu, hal, hps⟩ := hrel
    have HA := Aside0.mk hacc
    clear hacc
    by_cases hp : pos < s.size
    · have hnx : ∀ ty, (Instr.next (.pointer (some ⟨W1.heap.size, 0, none⟩)) true ty).run Tryd.prog wr = _ := fun ty => Lib.run_next_any_at wr W1.heap.size s pos ty hit0 hp
      have hwd := width_pos s pos hp
      have hde := decode_end s pos hp
      have hd1 := decode_le s pos
      replace hI := hI.iterAt hit0 (pos + (Utf8.decode s pos).2)
      have hit := Lib.iterAt_heap wr W1.heap.size s pos (pos + (Utf8.decode s pos).2) hit0
      replace hB := Lib.below_iterAt hB (k := W1.heap.size) (by omega) s (pos + (Utf8.decode s pos).2)
      have hsz := hB.size
      have hne : W1.heap.size ≠ w.heap.size := by omega
      obtain ⟨f, rfl⟩ : ∃ f, fuel = f + 1 := ⟨fuel - 1, by omega⟩
      have hq : quoteFrom s (f + 1) pos = quote1 (Utf8.decode s pos).1 ++ quoteFrom s f (pos + (Utf8.decode s pos).2) := by simp only [quoteFrom, if_pos hp]
      generalize (Utf8.decode s pos).1 = cc at *
      generalize (Utf8.decode s pos).2 = dd at *
      by_cases h34 : cc = 34
      · subst h34
        go_wp2_with (first | (go_at_call 23; refine (WriteByte_calls w.heap.size w.heap.size _ _ _ hI (by simp only [List.length_append, List.length_cons, List.length_nil, Lib.byteCells_length, strCells3]; omega) hsz).mono ?_; rintro e W2 ⟨rfl, h2, b2, k2⟩; replace hI : IsB w.heap.size w.heap.size _ W2 := Or.inr h2; replace hit := k2.iter hit hne; replace hB := hB.trans b2; replace hsz : w.heap.size ≤ W2.heap.size := hB.size; clear h2 b2 k2) | (go_at_call 43; refine (Builder_WriteRune_k w.heap.size w.heap.size _ _ (by omega) (by omega) _ hI (by simp only [List.length_append, List.length_cons, List.length_nil, Lib.byteCells_length, strCells3]; omega) hsz).mono ?_; rintro e W2 ⟨rfl, h2, b2, k2⟩; replace hI : IsB w.heap.size w.heap.size _ W2 := Or.inr h2; replace hit := k2.iter hit hne; replace hB := hB.trans b2; replace hsz : w.heap.size ≤ W2.heap.size := hB.size; clear h2 b2 k2))
        go_roundw
        case rel =>
          refine ⟨pos + dd, f, acc ++ quote1 34, IsB_of hI ?_, hit, hB, by rw [← HA.out, hq, List.append_assoc], by omega, by rw [List.length_append]; have := quote1_le 34; omega, by omega⟩
          exact conv92 acc 34
        case measure =>
          simp only [World.iterPos, hit, hit0]
          omega
      · by_cases h92 : cc = 92
        · subst h92
          go_wp2_with (first | (go_at_call 23; refine (WriteByte_calls w.heap.size w.heap.size _ _ _ hI (by simp only [List.length_append, List.length_cons, List.length_nil, Lib.byteCells_length, strCells3]; omega) hsz).mono ?_; rintro e W2 ⟨rfl, h2, b2, k2⟩; replace hI : IsB w.heap.size w.heap.size _ W2 := Or.inr h2; replace hit := k2.iter hit hne; replace hB := hB.trans b2; replace hsz : w.heap.size ≤ W2.heap.size := hB.size; clear h2 b2 k2) | (go_at_call 43; refine (Builder_WriteRune_k w.heap.size w.heap.size _ _ (by omega) (by omega) _ hI (by simp only [List.length_append, List.length_cons, List.length_nil, Lib.byteCells_length, strCells3]; omega) hsz).mono ?_; rintro e W2 ⟨rfl, h2, b2, k2⟩; replace hI : IsB w.heap.size w.heap.size _ W2 := Or.inr h2; replace hit := k2.iter hit hne; replace hB := hB.trans b2; replace hsz : w.heap.size ≤ W2.heap.size := hB.size; clear h2 b2 k2))
          go_roundw
          case rel =>
            refine ⟨pos + dd, f, acc ++ quote1 92, IsB_of hI ?_, hit, hB, by rw [← HA.out, hq, List.append_assoc], by omega, by rw [List.length_append]; have := quote1_le 92; omega, by omega⟩
            exact conv92 acc 92
          case measure =>
            simp only [World.iterPos, hit, hit0]
            omega
        · have h34' : ((cc : Int) == 34) = false := by rw [beq_eq_false_iff_ne]; omega
          have h92' : ((cc : Int) == 92) = false := by rw [beq_eq_false_iff_ne]; omega
          by_cases h127 : cc = 127
          · subst h127
            have hb : bits .and .i32 127 15 = 15 := by decide
            go_wp2_with (first | (go_at_call 23; refine (WriteByte_calls w.heap.size w.heap.size _ _ _ hI (by simp only [List.length_append, List.length_cons, List.length_nil, Lib.byteCells_length, strCells3]; omega) hsz).mono ?_; rintro e W2 ⟨rfl, h2, b2, k2⟩; replace hI : IsB w.heap.size w.heap.size _ W2 := Or.inr h2; replace hit := k2.iter hit hne; replace hB := hB.trans b2; replace hsz : w.heap.size ≤ W2.heap.size := hB.size; clear h2 b2 k2) | (go_at_call 24; refine (Builder_WriteString_k w.heap.size w.heap.size _ _ _ hI (by simp only [List.length_append, List.length_cons, List.length_nil, Lib.byteCells_length, size3]; omega) hsz).mono ?_; rintro e W2 ⟨rfl, h2, b2, k2⟩; replace hI : IsB w.heap.size w.heap.size _ W2 := Or.inr h2; replace hit := k2.iter hit hne; replace hB := hB.trans b2; replace hsz : w.heap.size ≤ W2.heap.size := hB.size; clear h2 b2 k2))
            go_roundw
            case rel =>
              refine ⟨pos + dd, f, acc ++ quote1 127, IsB_of hI ?_, hit, hB, by rw [← HA.out, hq, List.append_assoc], by omega, by rw [List.length_append]; have := quote1_le 127; omega, by omega⟩
              rw [Lib.byteCells_append, strCells3]; simp only [hexd_at, List.append_assoc]; rfl
            case measure =>
              simp only [World.iterPos, hit, hit0]
              omega
          · have h127' : ((cc : Int) == 127) = false := by rw [beq_eq_false_iff_ne]; omega
            by_cases h32 : cc < 32
            · have h32' : (cc : Int) < 32 := by omega
              have hb := band15 cc h32
              have hm : cc % 16 < 16 := by omega
              by_cases h16 : 16 ≤ cc
              · have h16' : (16 : Int) ≤ (cc : Int) := by omega
                have hd16 : cc / 16 < 16 := by omega
                go_wp2_with (first | (go_at_call 23; refine (WriteByte_calls w.heap.size w.heap.size _ _ _ hI (by simp only [List.length_append, List.length_cons, List.length_nil, Lib.byteCells_length, strCells3]; omega) hsz).mono ?_; rintro e W2 ⟨rfl, h2, b2, k2⟩; replace hI : IsB w.heap.size w.heap.size _ W2 := Or.inr h2; replace hit := k2.iter hit hne; replace hB := hB.trans b2; replace hsz : w.heap.size ≤ W2.heap.size := hB.size; clear h2 b2 k2) | (go_at_call 24; refine (Builder_WriteString_k w.heap.size w.heap.size _ _ _ hI (by simp only [List.length_append, List.length_cons, List.length_nil, Lib.byteCells_length, size3]; omega) hsz).mono ?_; rintro e W2 ⟨rfl, h2, b2, k2⟩; replace hI : IsB w.heap.size w.heap.size _ W2 := Or.inr h2; replace hit := k2.iter hit hne; replace hB := hB.trans b2; replace hsz : w.heap.size ≤ W2.heap.size := hB.size; clear h2 b2 k2))
                go_roundw
                case rel =>
                  refine ⟨pos + dd, f, acc ++ quote1 cc, IsB_of hI ?_, hit, hB, by rw [← HA.out, hq, List.append_assoc], by omega, by rw [List.length_append]; have := quote1_le cc; omega, by omega⟩
                  rw [Lib.byteCells_append, strCells3, quote1, if_neg (by omega), if_pos (Or.inl h32), if_pos h16]; simp only [hexd_at, List.append_assoc]; rfl
                case measure =>
                  simp only [World.iterPos, hit, hit0]
                  omega
              · have h16' : ¬ (16 : Int) ≤ (cc : Int) := by omega
                go_wp2_with (first | (go_at_call 23; refine (WriteByte_calls w.heap.size w.heap.size _ _ _ hI (by simp only [List.length_append, List.length_cons, List.length_nil, Lib.byteCells_length, strCells3]; omega) hsz).mono ?_; rintro e W2 ⟨rfl, h2, b2, k2⟩; replace hI : IsB w.heap.size w.heap.size _ W2 := Or.inr h2; replace hit := k2.iter hit hne; replace hB := hB.trans b2; replace hsz : w.heap.size ≤ W2.heap.size := hB.size; clear h2 b2 k2) | (go_at_call 24; refine (Builder_WriteString_k w.heap.size w.heap.size _ _ _ hI (by simp only [List.length_append, List.length_cons, List.length_nil, Lib.byteCells_length, size3]; omega) hsz).mono ?_; rintro e W2 ⟨rfl, h2, b2, k2⟩; replace hI : IsB w.heap.size w.heap.size _ W2 := Or.inr h2; replace hit := k2.iter hit hne; replace hB := hB.trans b2; replace hsz : w.heap.size ≤ W2.heap.size := hB.size; clear h2 b2 k2))
                go_roundw
                case rel =>
                  refine ⟨pos + dd, f, acc ++ quote1 cc, IsB_of hI ?_, hit, hB, by rw [← HA.out, hq, List.append_assoc], by omega, by rw [List.length_append]; have := quote1_le cc; omega, by omega⟩
                  rw [Lib.byteCells_append, strCells3, quote1, if_neg (by omega), if_pos (Or.inl h32), if_neg h16]; simp only [hexd_at, List.append_assoc]; rfl
                case measure =>
                  simp only [World.iterPos, hit, hit0]
                  omega
            · have h32' : ¬ (cc : Int) < 32 := by omega
              go_wp2_with (first | (go_at_call 43; refine (Builder_WriteRune_k w.heap.size w.heap.size _ _ (by omega) (by omega) _ hI (by simp only [List.length_append, List.length_cons, List.length_nil, Lib.byteCells_length, strCells3]; omega) hsz).mono ?_; rintro e W2 ⟨rfl, h2, b2, k2⟩; replace hI : IsB w.heap.size w.heap.size _ W2 := Or.inr h2; replace hit := k2.iter hit hne; replace hB := hB.trans b2; replace hsz : w.heap.size ≤ W2.heap.size := hB.size; clear h2 b2 k2))
              go_roundw
              case rel =>
                refine ⟨pos + dd, f, acc ++ quote1 cc, IsB_of hI ?_, hit, hB, by rw [← HA.out, hq, List.append_assoc], by omega, by rw [List.length_append]; have := quote1_le cc; omega, by omega⟩
                rw [Lib.byteCells_append, quote1, if_neg (by omega), if_neg (by omega), Lib.byteCells_encodeRune]
              case measure =>
                simp only [World.iterPos, hit, hit0]
                omega
    · have hnx : ∀ ty, (Instr.next (.pointer (some ⟨W1.heap.size, 0, none⟩)) true ty).run Tryd.prog wr = _ := fun ty => Lib.run_next_end_at wr W1.heap.size s pos ty hit0 hp
      have hsz := hB.size
      rw [quoteFrom_end s fuel pos hp, List.append_nil] at HA
      go_wp2_with (first | (go_at_call 23; refine (WriteByte_calls w.heap.size w.heap.size _ 34 _ hI (by rw [Lib.byteCells_length]; omega) hsz).mono ?_; rintro e W2 ⟨rfl, h2, b2, k2⟩))
      have hI3 : IsB w.heap.size w.heap.size (Lib.byteCells (acc ++ [34])) W2 := IsB_congr h2 (by rw [Lib.byteCells_append]; rfl)
      have hsz3 : w.heap.size ≤ W2.heap.size := Nat.le_trans hsz b2.size
      go_wp2_with (go_at_call 27; refine (String_calls w.heap.size w.heap.size (acc ++ [34]) _ hI3 hsz3).mono ?_; rintro e W3 ⟨rfl, _, b3, _⟩)
      go_ret
      exact ⟨by rw [HA.out]; rfl, (hB.trans b2).trans b3⟩
end Go.Proofs.YtfndanccnjggfaaDoor.Q
/- What is proved: utf8.ValidString's contract of the shelf, at this seat's numbers. -/
namespace Go.Proofs
open Go.Shelf
def Tryd.lays196_ren : Go.Shelf.Ren := ⟨fun | 196 => 22 | 259 => 41 | n => n, fun | 0 => 0 | 3 => 3 | 4 => 4 | 5 => 5 | 9 => 9 | 12 => 12 | 46 => 63 | 53 => 94 | 119 => 78 | 138 => 80 | 139 => 81 | n => n, fun | 3 => 0 | 4 => 1 | n => n⟩
set_option maxRecDepth 100000 in
theorem Tryd.lays196 : Go.Proofs.Lays.n196 Tryd.prog Tryd.lays196_ren := {
  mixed := by kernel_rfl
  f196 := Tryd.func22.trans (congrArg some (by kernel_rfl))
  f259 := Tryd.func41.trans (congrArg some (by kernel_rfl))
  t0 := Tryd.underlying0
  a0 := Tryd.isAgg0
  z0 := Tryd.sizeOf0
  v0 := Tryd.zeroValue0
  t3 := Tryd.underlying3
  a3 := Tryd.isAgg3
  z3 := Tryd.sizeOf3
  v3 := Tryd.zeroValue3
  t4 := Tryd.underlying4
  a4 := Tryd.isAgg4
  z4 := Tryd.sizeOf4
  v4 := Tryd.zeroValue4
  t5 := Tryd.underlying5
  a5 := Tryd.isAgg5
  z5 := Tryd.sizeOf5
  v5 := Tryd.zeroValue5
  t9 := Tryd.underlying9
  a9 := Tryd.isAgg9
  z9 := Tryd.sizeOf9
  v9 := Tryd.zeroValue9
  t12 := Tryd.underlying12
  a12 := Tryd.isAgg12
  z12 := Tryd.sizeOf12
  v12 := Tryd.zeroValue12
  t46 := Tryd.underlying63
  a46 := Tryd.isAgg63
  z46 := Tryd.sizeOf63
  v46 := Tryd.zeroValue63
  t53 := Tryd.underlying94
  a53 := Tryd.isAgg94
  z53 := Tryd.sizeOf94
  v53 := Tryd.zeroValue94
  t119 := Tryd.underlying78
  a119 := Tryd.isAgg78
  z119 := Tryd.sizeOf78
  t138 := Tryd.underlying80
  a138 := Tryd.isAgg80
  z138 := Tryd.sizeOf80
  v138 := Tryd.zeroValue80
  t139 := Tryd.underlying81
  a139 := Tryd.isAgg81
  z139 := Tryd.sizeOf81
  v139 := Tryd.zeroValue81
  g3 := by kernel_rfl
  g4 := by kernel_rfl }
open Go.RowKit Go.Lib in
theorem Tryd.utf8_ValidString (s : ByteArray) (w : World) (hs : s.size ≤ 9223372036854775807) (hT : Lib.Utf8Tabs 0 1 w) :
    Calls Tryd.prog 22 #[.string s] w fun e w' => e = .returned (.bool (Lib.validD s.data.toList)) ∧ Below w.heap.size w w' := Any.utf8_ValidString Tryd.lays196 s w hs hT
end Go.Proofs
/- What is proved: lex.Quote: what a text is in quotes, or why it may not be. -/
namespace Go.Proofs.YtfndanccnjggfaaDoor.Q
open Go.RowKit Go.Proofs.YtfndanccnjggfaaDoorW.PrintWords Go.Proofs.YtfndanccnjggfaaDoorW.PrintLast Go.Proofs.YtfndanccnjggfaaDoorW.PrintMore
set_option linter.unusedVariables false
set_option linter.unusedSimpArgs false
def lex_Quote.f (a0 : ByteArray) : Option (ByteArray × Int) :=
  if a0.size ≤ 1048576 then
    if Lib.validD a0.data.toList = false then some (⟨#[]⟩, 152)
    else if 65536 < a0.size then some (⟨#[]⟩, 4)
    else some (⟨(quoteL a0).toArray⟩, 0)
  else none
set_option maxHeartbeats 2000000 in
theorem lex_Quote.calls (a0 r0 : ByteArray) (r1 : Int) (w : World) (hG : Glob w) (h : lex_Quote.f a0 = some (r0, r1)) :
    Calls Tryd.prog 14 #[.string a0] w fun e w' => e = .returned (.tuple #[.string r0, .int .i64 r1]) ∧ Below w.heap.size w w' := by
  unfold lex_Quote.f at h
  by_cases hs : a0.size ≤ 1048576
  · rw [if_pos hs] at h
    have hv := Tryd.utf8_ValidString a0 w (by omega) hG
    by_cases hd : Lib.validD a0.data.toList = false
    · rw [if_pos hd] at h
      simp only [Option.some.injEq, Prod.mk.injEq] at h
      obtain ⟨rfl, rfl⟩ := h
      rw [hd] at hv
      go_enter Tryd.func14, Tryd.ntmps14
      go_wp2_with (go_at_call 22; refine hv.mono ?_; rintro e w1 ⟨rfl, hb1⟩)
      go_ret2
      exact ⟨rfl, hb1⟩
    · rw [if_neg hd] at h
      have hd' : Lib.validD a0.data.toList = true := by simpa using hd
      rw [hd'] at hv
      by_cases hl : 65536 < a0.size
      · rw [if_pos hl] at h
        simp only [Option.some.injEq, Prod.mk.injEq] at h
        obtain ⟨rfl, rfl⟩ := h
        have hl' : (65536 : Int) < (a0.size : Int) := by omega
        go_enter Tryd.func14, Tryd.ntmps14
        go_wp2_with (go_at_call 22; refine hv.mono ?_; rintro e w1 ⟨rfl, hb1⟩)
        go_ret2
        exact ⟨rfl, hb1⟩
      · rw [if_neg hl] at h
        simp only [Option.some.injEq, Prod.mk.injEq] at h
        obtain ⟨rfl, rfl⟩ := h
        have hl' : ¬ (65536 : Int) < (a0.size : Int) := by omega
        go_enter Tryd.func14, Tryd.ntmps14
        go_wp2_with (first | (go_at_call 22; refine hv.mono ?_; rintro e w1 ⟨rfl, hb1⟩) | (go_at_call 25; refine (quote_calls a0 _ hs).mono ?_; rintro e w2 ⟨rfl, hb2⟩))
        go_ret2
        exact ⟨rfl, hb1.trans (hb2.mono hb1.size)⟩
  · rw [if_neg hs] at h
    cases h
end Go.Proofs.YtfndanccnjggfaaDoor.Q
/- What is proved: whether a text is one word. -/
namespace Go.Proofs.YtfndanccnjggfaaDoor.Q
open Go.RowKit Go.Proofs.YtfndanccnjggfaaDoorW.PrintWords Go.Proofs.YtfndanccnjggfaaDoorW.PrintLast Go.Proofs.YtfndanccnjggfaaDoorW.PrintMore
set_option linter.unusedVariables false
set_option linter.unusedSimpArgs false
def wordF (s : ByteArray) : Bool :=
  match lexF s with
  | .ok [t, _] => decide (t.f0 = 1) && (t.f1.toList == s.toList)
  | _ => false
set_option maxHeartbeats 4000000 in
set_option maxRecDepth 1000000 in
theorem word_calls (s : ByteArray) (hs : s.size ≤ 65536) (w : World) (hG : Glob w) :
    Calls Tryd.prog 21 #[.string s] w fun e w' => e = .returned (.bool (wordF s)) ∧ Below w.heap.size w w' := by
  have hc := callsIn_wide.1 (lex_calls s hs w hG)
  unfold wordF
  cases hk : lexF s with
  | error t =>
    obtain ⟨e, n, i⟩ := t
    rw [hk] at hc
    simp only [lexFault, lexToks] at hc
    go_enter Tryd.func21, Tryd.ntmps21
    go_wp2_with (go_at_call 8; refine hc.mono ?_; rintro r w1 ⟨v, rfl, ⟨A, c, rfl, _, _⟩, hb1⟩)
    all_goals (go_ret; exact ⟨rfl, hb1.alloc hb1.size _⟩)
  | ok l =>
    rw [hk] at hc
    simp only [lexFault, lexToks] at hc
    by_cases hl2 : l.length = 2
    · obtain ⟨t, t2, rfl⟩ : ∃ t t2, l = [t, t2] := by
        match l, hl2 with
        | [t, t2], _ => exact ⟨t, t2, rfl⟩
      simp only
      by_cases h1 : t.f0 = 1
      · have hd : decide (t.f0 = 1) = true := decide_eq_true h1
        rw [hd, Bool.true_and]
        go_enter Tryd.func21, Tryd.ntmps21
        go_wp2_with (go_at_call 8; refine hc.mono ?_; rintro r w1 ⟨v, rfl, ⟨A, c, rfl, _, hF⟩, hb1⟩; obtain ⟨ad, rfl, q0, q1, _⟩ := at_T36 (Kd.F_now (Kd.F_alloc hF (.cells #[.int .i64 0, .int .i64 0, .int .i64 0] 26))) 0 (by omega) (by simp); replace q0 : (w1.alloc (.cells #[.int .i64 0, .int .i64 0, .int .i64 0] 26)).cell? ad = some (.int .u8 t.f0) := q0; replace q1 : (w1.alloc (.cells #[.int .i64 0, .int .i64 0, .int .i64 0] 26)).cell? ⟨ad.block, ad.off + 1, none⟩ = some (.string t.f1) := q1; rw [h1] at q0)
        all_goals (go_ret; exact ⟨rfl, hb1.alloc hb1.size _⟩)
      · have hd : decide (t.f0 = 1) = false := decide_eq_false h1
        rw [hd, Bool.false_and]
        go_enter Tryd.func21, Tryd.ntmps21
        go_wp2_with (go_at_call 8; refine hc.mono ?_; rintro r w1 ⟨v, rfl, ⟨A, c, rfl, _, hF⟩, hb1⟩; obtain ⟨ad, rfl, q0, q1, _⟩ := at_T36 (Kd.F_now (Kd.F_alloc hF (.cells #[.int .i64 0, .int .i64 0, .int .i64 0] 26))) 0 (by omega) (by simp); replace q0 : (w1.alloc (.cells #[.int .i64 0, .int .i64 0, .int .i64 0] 26)).cell? ad = some (.int .u8 t.f0) := q0; replace q1 : (w1.alloc (.cells #[.int .i64 0, .int .i64 0, .int .i64 0] 26)).cell? ⟨ad.block, ad.off + 1, none⟩ = some (.string t.f1) := q1)
        all_goals (go_ret; exact ⟨rfl, hb1.alloc hb1.size _⟩)
    · have hne : ¬ (l.length : Int) = 2 := by omega
      have hm : (match (.ok l : Except (Int × Int × Int) (List S36)) with
        | .ok [t, _] => decide (t.f0 = 1) && (t.f1.toList == s.toList)
        | _ => false) = false := by
        match l, hl2 with
        | [], _ => rfl
        | [_], _ => rfl
        | _ :: _ :: _ :: _, _ => rfl
      rw [hm]
      go_enter Tryd.func21, Tryd.ntmps21
      go_wp2_with (go_at_call 8; refine hc.mono ?_; rintro r w1 ⟨v, rfl, ⟨A, c, rfl, _, hF⟩, hb1⟩)
      all_goals (go_ret; exact ⟨rfl, hb1.alloc hb1.size _⟩)
end Go.Proofs.YtfndanccnjggfaaDoor.Q
/- What is proved: lex.Write: how tokens are written, or why they may not be. -/
namespace Go.Proofs.YtfndanccnjggfaaDoor.Q
open Go.RowKit Go.Proofs.YtfndanccnjggfaaDoorW.PrintWords Go.Proofs.YtfndanccnjggfaaDoorW.PrintLast Go.Proofs.YtfndanccnjggfaaDoorW.PrintMore
set_option linter.unusedVariables false
set_option linter.unusedSimpArgs false
def toksize : List S36 → Nat
  | [] => 0
  | t :: r => t.f1.size + 8 + toksize r
def tokBad (last : Int) (t : S36) : Bool :=
  (decide (t.f0 = 1) && (decide (65536 < t.f1.size) || !wordF t.f1)) || (decide (t.f0 = 2) && !Lib.validD t.f1.data.toList) || (decide (2 < t.f0) && decide (t.f1.size ≠ 0)) || (decide (t.f0 = 5) && decide (last = 5)) || decide (t.f0 < 1) || decide (5 < t.f0)
def tokBytes (t : S36) : List UInt8 :=
  if t.f0 = 1 then t.f1.data.toList else if t.f0 = 2 then quoteL t.f1 else if t.f0 = 3 then [44] else if t.f0 = 4 then [33] else if t.f0 = 5 then [10] else []
def sepBytes (last : Int) (t : S36) : List UInt8 := if last ≠ 5 ∧ last ≠ 4 ∧ t.f0 ≠ 3 ∧ t.f0 ≠ 5 then [32] else []
def writeFrom : List S36 → Int → List UInt8 → Option (Int × List UInt8)
  | [], last, acc => some (last, acc)
  | t :: r, last, acc => if tokBad last t = true then none else writeFrom r t.f0 (acc ++ sepBytes last t ++ tokBytes t)
def writeEnd : Option (Int × List UInt8) → ByteArray × Int
  | none => (⟨#[]⟩, 2)
  | some (last, acc) => if last ≠ 5 then (⟨#[]⟩, 2) else if 65536 < acc.length then (⟨#[]⟩, 4) else (⟨acc.toArray⟩, 0)
def lex_Write.f (l0 : List S36) : Option (ByteArray × Int) := if toksize l0 ≤ 1048576 then some (writeEnd (writeFrom l0 5 [])) else none
theorem size00 : (⟨#[]⟩ : ByteArray).size = 0 := rfl
theorem strCells_of (l : List UInt8) : Lib.strCells (⟨l.toArray⟩ : ByteArray) = Lib.byteCells l := by simp [Lib.strCells, Lib.byteCells]
theorem strCells_tx (s : ByteArray) : Lib.strCells s = Lib.byteCells s.data.toList := rfl
theorem toksize_len (l : List S36) : 8 * l.length ≤ toksize l := by
  induction l with
  | nil => simp [toksize]
  | cons a l ih => simp only [toksize, List.length_cons]; omega
theorem IsB.below {B b : Nat} {bs : List Value} {w w' : World} (h : IsB B b bs w) (hb : Below w.heap.size w w') : IsB B b bs w' := by
  have key : ∀ p, Lib.BuilderAtF 53 5 B b p bs w → Lib.BuilderAtF 53 5 B b p bs w' := by
    rintro p ⟨hB, v, hbk, hown, hne⟩
    refine ⟨hB, v, (hb.block b (blk_lt hbk)).trans hbk, ?_, hne⟩
    obtain ⟨h1, h2⟩ := hown
    refine ⟨h1, ?_⟩
    rcases h2 with h2 | ⟨g, cap, cur, fz, hv, hg, hgk, r⟩
    · exact .inl h2
    · exact .inr ⟨g, cap, cur, fz, hv, hg, (hb.block g (blk_lt hgk)).trans hgk, r⟩
  rcases h with h | h
  · exact .inl (key _ h)
  · exact .inr (key _ h)
theorem quoteL_le (s : ByteArray) : (quoteL s).length ≤ 6 * s.size + 2 := by
  have key : ∀ f pos, pos ≤ s.size → (quoteFrom s f pos).length ≤ 6 * (s.size - pos) := by
    intro f
    induction f with
    | zero => intro pos _; simp [quoteFrom]
    | succ f ih =>
      intro pos hp
      unfold quoteFrom
      split
      · rename_i h
        have h1 := width_pos s pos h
        have h2 := decode_end s pos h
        have h3 := ih (pos + (Utf8.decode s pos).2) h2
        have h4 := quote1_le (Utf8.decode s pos).1
        rw [List.length_append]
        omega
      · simp
  have := key s.size 0 (by omega)
  unfold quoteL
  simp
  omega
theorem toksize_drop (l : List S36) (i : Nat) (h : i < l.length) : toksize (l.drop i) = (l[i]).f1.size + 8 + toksize (l.drop (i + 1)) := by
  rw [List.drop_eq_getElem_cons h]
  rfl
set_option maxHeartbeats 8000000 in
set_option maxRecDepth 1000000 in
theorem write_calls (A0 : Option Addr) (c0 : Nat) (l0 : List S36) (w : World) (hr0 : Kd.C k36 w A0 l0.length l0) (hc0 : l0.length ≤ c0) (hG : Glob w) (hs : toksize l0 ≤ 1048576) :
    Calls Tryd.prog 12 #[.slice A0 l0.length c0] w fun e w' => e = .returned (.tuple #[.string (writeEnd (writeFrom l0 5 [])).1, .int .i64 (writeEnd (writeFrom l0 5 [])).2]) ∧ Below w.heap.size w w' := by
  obtain ⟨K, hK⟩ : ∃ K, K = writeFrom l0 5 [] := ⟨_, rfl⟩
  rw [← hK]
  have HK := Aside0.mk hK
  have HC := Aside0.mk hr0
  have HGl := Aside0.mk hG
  clear hK hr0 hG
  go_enter Tryd.func12, Tryd.ntmps12
  have hI0 : IsB w.heap.size w.heap.size (Lib.byteCells []) (w.alloc (.cells #[.pointer none, .slice none 0 0] 53)) := Lib.IsBuilderF.of (Lib.fresh_isBuilder 53 5 w)
  go_wp2
  go_loopw [5, 10] (fun p5 p10 wr => ∃ (i : Nat) (last : Int) (acc : List UInt8), p5 = .int .u8 last ∧ p10 = .int .i64 (i : Int) ∧ IsB w.heap.size w.heap.size (Lib.byteCells acc) wr ∧ Below w.heap.size w wr ∧ writeFrom (l0.drop i) last acc = K ∧ i ≤ l0.length ∧ acc.length + 7 * toksize (l0.drop i) ≤ 7340032) (fun p5 p10 wr => l0.length - (intOf p10).toNat)
  case atStart =>
    exact ⟨0, 5, [], rfl, rfl, hI0, (Below.refl _ w).alloc (Nat.le_refl _) _, by rw [HK.out]; rfl, by omega, by simp; omega⟩
  case round =>
    obtain ⟨i, last, acc, rfl, rfl, hI, hB, hwf, hi, hacc⟩ := hrel
    by_cases hp : i < l0.length
    · have hp' : (i : Int) < (l0.length : Int) := by omega
      obtain ⟨ad, rfl, q0, q1, q2, q3⟩ := at_T36 (Kd.C_below HC.out hB) (i : Int) (by omega) hp'
      rw [Int.toNat_natCast] at q0 q1 q2 q3
      have htd := toksize_drop l0 i hp
      rw [List.drop_eq_getElem_cons hp] at hwf
      have hrd : rd_T36 l0 (i : Int) = l0[i] := by unfold rd_T36; simp [List.getD, hp]
      rw [hrd] at q0 q1 q2 q3
      generalize l0[i] = t at *
      obtain ⟨k, tx, tl, ta⟩ := t
      simp only at q0 q1 q2 q3 htd
      have HWF := Aside0.mk hwf
      clear hwf hrd
      -- GENERATED
      have hlt : w.heap.size < wr.heap.size := by rcases hI with h | h <;> exact h.lt
      have hbx := blk_new wr (.cells #[.int .u8 k, .string tx, .int .i64 tl, .int .i64 ta] 36)
      replace hI : IsB w.heap.size w.heap.size (Lib.byteCells acc) (wr.alloc (.cells #[.int .u8 k, .string tx, .int .i64 tl, .int .i64 ta] 36)) := Lib.IsBuilderF.alloc hI _
      replace hB := hB.alloc (show w.heap.size ≤ wr.heap.size by omega) (.cells #[.int .u8 k, .string tx, .int .i64 tl, .int .i64 ta] 36)
      have hsz := hB.size
      have hG0 := HGl.out
      have hGx := hG0.below hB
      have hne : some wr.heap.size ≠ some w.heap.size := by intro h; injection h with h; omega
      have hnc : ∀ c fz, (.cells #[.int .u8 k, .string tx, .int .i64 tl, .int .i64 ta] 36 (0, 0) : Obj) ≠ .cells c 5 fz := by intro c fz h; injection h with _ h; exact absurd h (by decide)
      have hqs := quoteL_le tx
      have hts : tx.size ≤ 1048576 := by omega
      have htl := (Lib.size_eq tx).symm
      have hl8 : l0.length ≤ 131072 := by have := toksize_len l0; omega
      have hqb : (⟨(quoteL tx).toArray⟩ : ByteArray).size = (quoteL tx).length := by simp [ByteArray.size]
      have hk : k = 1 ∨ k = 2 ∨ (k = 3 ∧ tx.size = 0) ∨ (k = 4 ∧ tx.size = 0) ∨ (k = 5 ∧ tx.size = 0) ∨ (2 < k ∧ tx.size ≠ 0) ∨ k < 1 ∨ (5 < k ∧ tx.size = 0) := by omega
      rcases hk with rfl | rfl | ⟨rfl, hz⟩ | ⟨rfl, hz⟩ | ⟨rfl, hz⟩ | ⟨hk, hz⟩ | hk | ⟨hk, hz⟩
      · by_cases hlong : 65536 < tx.size
        · have hlong' : (65536 : Int) < (tx.size : Int) := by omega
          have hbad : tokBad last ⟨1, tx, tl, ta⟩ = true := by simp [tokBad, hlong]
          have hKn : K = none := by rw [← HWF.out]; simp only [writeFrom, hbad, if_true]
          clear hbad
          go_wp2
          go_ret2
          exact ⟨by first | rfl | (rw [hKn]; rfl), hB⟩
        · have hlong' : ¬ (65536 : Int) < (tx.size : Int) := by omega
          cases hwd : wordF tx with
          | false =>
            have hbad : tokBad last ⟨1, tx, tl, ta⟩ = true := by simp [tokBad, hwd]
            have hKn : K = none := by rw [← HWF.out]; simp only [writeFrom, hbad, if_true]
            clear hbad
            go_wp2_with (first | (go_at_call 21; refine (word_calls tx (by omega) _ hGx).mono ?_; rintro e W2 ⟨rfl, b2⟩; rw [hwd]; replace hI := IsB.below hI b2; replace hbx := blk_below hbx b2; replace hB := hB.trans (b2.mono hsz); replace hsz := hB.size; replace hGx := hG0.below hB; have d0 : W2.cell? ⟨wr.heap.size, 0, none⟩ = some (.int .u8 1) := blk_cell hbx 0; have d1 : W2.cell? ⟨wr.heap.size, 1, none⟩ = some (.string tx) := blk_cell hbx 1; clear b2))
            go_ret2
            exact ⟨by first | rfl | (rw [hKn]; rfl), hB⟩
          | true =>
            by_cases hl5 : last = 5
            · subst hl5
              have hbad : tokBad 5 ⟨1, tx, tl, ta⟩ = false := by simp [tokBad, hlong, hwd]
              have hs1 : sepBytes 5 ⟨1, tx, tl, ta⟩ = [] := by simp [sepBytes, hlong, hwd]
              have hs2 : tokBytes ⟨1, tx, tl, ta⟩ = tx.data.toList := by simp [tokBytes]
              have hnx : writeFrom (l0.drop (i + 1)) 1 (acc ++ ([] : List UInt8) ++ tx.data.toList) = K := by rw [← HWF.out]; simp only [writeFrom, hbad, hs1, hs2]; rfl
              have HNX := Aside0.mk hnx
              clear hbad hnx hs1 hs2
              go_wp2_with (first | (go_at_call 21; refine (word_calls tx (by omega) _ hGx).mono ?_; rintro e W2 ⟨rfl, b2⟩; rw [hwd]; replace hI := IsB.below hI b2; replace hbx := blk_below hbx b2; replace hB := hB.trans (b2.mono hsz); replace hsz := hB.size; replace hGx := hG0.below hB; have d0 : W2.cell? ⟨wr.heap.size, 0, none⟩ = some (.int .u8 1) := blk_cell hbx 0; have d1 : W2.cell? ⟨wr.heap.size, 1, none⟩ = some (.string tx) := blk_cell hbx 1; clear b2) | (go_at_call 24; refine (Builder_WriteString_k w.heap.size w.heap.size _ tx _ hI (by simp only [List.length_append, List.length_cons, List.length_nil, Lib.byteCells_length]; omega) hsz).mono ?_; rintro e W2 ⟨rfl, h2, b2, k2⟩; replace hI : IsB w.heap.size w.heap.size _ W2 := Or.inr h2; replace hbx := k2 _ _ hbx hne hnc; replace hB := hB.trans b2; replace hsz := hB.size; replace hGx := hG0.below hB; have d0 : W2.cell? ⟨wr.heap.size, 0, none⟩ = some (.int .u8 1) := blk_cell hbx 0; have d1 : W2.cell? ⟨wr.heap.size, 1, none⟩ = some (.string tx) := blk_cell hbx 1; clear h2 b2 k2))
              go_roundw
              case rel =>
                refine ⟨i + 1, 1, _, rfl, (by first | rfl | exact w64 (by omega) (by omega) | (simp; done)), IsB_of hI ?_, hB, HNX.out, by omega, by simp only [List.length_append, List.length_cons, List.length_nil]; omega⟩
                first | rfl | (simp only [Lib.byteCells_append, strCells_of, strCells_tx]; first | rfl | (simp [Lib.byteCells]; done))
              case measure => simp only [intOf]; omega
            · have hl5a : (last == 5) = false := by rw [beq_eq_false_iff_ne]; exact hl5
              have hl5b : (last != 5) = true := by rw [bne_iff_ne]; exact hl5
              by_cases hl4 : last = 4
              · subst hl4
                have hbad : tokBad 4 ⟨1, tx, tl, ta⟩ = false := by simp [tokBad, hlong, hwd]
                have hs1 : sepBytes 4 ⟨1, tx, tl, ta⟩ = [] := by simp [sepBytes, hlong, hwd]
                have hs2 : tokBytes ⟨1, tx, tl, ta⟩ = tx.data.toList := by simp [tokBytes]
                have hnx : writeFrom (l0.drop (i + 1)) 1 (acc ++ ([] : List UInt8) ++ tx.data.toList) = K := by rw [← HWF.out]; simp only [writeFrom, hbad, hs1, hs2]; rfl
                have HNX := Aside0.mk hnx
                clear hbad hnx hs1 hs2
                go_wp2_with (first | (go_at_call 21; refine (word_calls tx (by omega) _ hGx).mono ?_; rintro e W2 ⟨rfl, b2⟩; rw [hwd]; replace hI := IsB.below hI b2; replace hbx := blk_below hbx b2; replace hB := hB.trans (b2.mono hsz); replace hsz := hB.size; replace hGx := hG0.below hB; have d0 : W2.cell? ⟨wr.heap.size, 0, none⟩ = some (.int .u8 1) := blk_cell hbx 0; have d1 : W2.cell? ⟨wr.heap.size, 1, none⟩ = some (.string tx) := blk_cell hbx 1; clear b2) | (go_at_call 24; refine (Builder_WriteString_k w.heap.size w.heap.size _ tx _ hI (by simp only [List.length_append, List.length_cons, List.length_nil, Lib.byteCells_length]; omega) hsz).mono ?_; rintro e W2 ⟨rfl, h2, b2, k2⟩; replace hI : IsB w.heap.size w.heap.size _ W2 := Or.inr h2; replace hbx := k2 _ _ hbx hne hnc; replace hB := hB.trans b2; replace hsz := hB.size; replace hGx := hG0.below hB; have d0 : W2.cell? ⟨wr.heap.size, 0, none⟩ = some (.int .u8 1) := blk_cell hbx 0; have d1 : W2.cell? ⟨wr.heap.size, 1, none⟩ = some (.string tx) := blk_cell hbx 1; clear h2 b2 k2))
                go_roundw
                case rel =>
                  refine ⟨i + 1, 1, _, rfl, (by first | rfl | exact w64 (by omega) (by omega) | (simp; done)), IsB_of hI ?_, hB, HNX.out, by omega, by simp only [List.length_append, List.length_cons, List.length_nil]; omega⟩
                  first | rfl | (simp only [Lib.byteCells_append, strCells_of, strCells_tx]; first | rfl | (simp [Lib.byteCells]; done))
                case measure => simp only [intOf]; omega
              · have hl4a : (last == 4) = false := by rw [beq_eq_false_iff_ne]; exact hl4
                have hl4b : (last != 4) = true := by rw [bne_iff_ne]; exact hl4
                have hbad : tokBad last ⟨1, tx, tl, ta⟩ = false := by simp [tokBad, hlong, hwd, hl5, hl4]
                have hs1 : sepBytes last ⟨1, tx, tl, ta⟩ = [32] := by simp [sepBytes, hlong, hwd, hl5, hl4]
                have hs2 : tokBytes ⟨1, tx, tl, ta⟩ = tx.data.toList := by simp [tokBytes]
                have hnx : writeFrom (l0.drop (i + 1)) 1 (acc ++ [32] ++ tx.data.toList) = K := by rw [← HWF.out]; simp only [writeFrom, hbad, hs1, hs2]; rfl
                have HNX := Aside0.mk hnx
                clear hbad hnx hs1 hs2
                go_wp2_with (first | (go_at_call 21; refine (word_calls tx (by omega) _ hGx).mono ?_; rintro e W2 ⟨rfl, b2⟩; rw [hwd]; replace hI := IsB.below hI b2; replace hbx := blk_below hbx b2; replace hB := hB.trans (b2.mono hsz); replace hsz := hB.size; replace hGx := hG0.below hB; have d0 : W2.cell? ⟨wr.heap.size, 0, none⟩ = some (.int .u8 1) := blk_cell hbx 0; have d1 : W2.cell? ⟨wr.heap.size, 1, none⟩ = some (.string tx) := blk_cell hbx 1; clear b2) | (go_at_call 23; refine (WriteByte_calls w.heap.size w.heap.size _ _ _ hI (by simp only [List.length_append, List.length_cons, List.length_nil, Lib.byteCells_length, Lib.strCells_length]; omega) hsz).mono ?_; rintro e W2 ⟨rfl, h2, b2, k2⟩; replace hI : IsB w.heap.size w.heap.size _ W2 := Or.inr h2; replace hbx := k2 _ _ hbx hne hnc; replace hB := hB.trans b2; replace hsz := hB.size; replace hGx := hG0.below hB; have d0 : W2.cell? ⟨wr.heap.size, 0, none⟩ = some (.int .u8 1) := blk_cell hbx 0; have d1 : W2.cell? ⟨wr.heap.size, 1, none⟩ = some (.string tx) := blk_cell hbx 1; clear h2 b2 k2) | (go_at_call 24; refine (Builder_WriteString_k w.heap.size w.heap.size _ tx _ hI (by simp only [List.length_append, List.length_cons, List.length_nil, Lib.byteCells_length]; omega) hsz).mono ?_; rintro e W2 ⟨rfl, h2, b2, k2⟩; replace hI : IsB w.heap.size w.heap.size _ W2 := Or.inr h2; replace hbx := k2 _ _ hbx hne hnc; replace hB := hB.trans b2; replace hsz := hB.size; replace hGx := hG0.below hB; have d0 : W2.cell? ⟨wr.heap.size, 0, none⟩ = some (.int .u8 1) := blk_cell hbx 0; have d1 : W2.cell? ⟨wr.heap.size, 1, none⟩ = some (.string tx) := blk_cell hbx 1; clear h2 b2 k2))
                go_roundw
                case rel =>
                  refine ⟨i + 1, 1, _, rfl, (by first | rfl | exact w64 (by omega) (by omega) | (simp; done)), IsB_of hI ?_, hB, HNX.out, by omega, by simp only [List.length_append, List.length_cons, List.length_nil]; omega⟩
                  first | rfl | (simp only [Lib.byteCells_append, strCells_of, strCells_tx]; first | rfl | (simp [Lib.byteCells]; done))
                case measure => simp only [intOf]; omega
      · cases hvd : Lib.validD tx.data.toList with
        | false =>
          have hbad : tokBad last ⟨2, tx, tl, ta⟩ = true := by simp [tokBad, hvd]
          have hKn : K = none := by rw [← HWF.out]; simp only [writeFrom, hbad, if_true]
          clear hbad
          go_wp2_with (first | (go_at_call 22; refine (Tryd.utf8_ValidString tx _ (by omega) hGx).mono ?_; rintro e W2 ⟨rfl, b2⟩; rw [hvd]; replace hI := IsB.below hI b2; replace hbx := blk_below hbx b2; replace hB := hB.trans (b2.mono hsz); replace hsz := hB.size; replace hGx := hG0.below hB; have d0 : W2.cell? ⟨wr.heap.size, 0, none⟩ = some (.int .u8 2) := blk_cell hbx 0; have d1 : W2.cell? ⟨wr.heap.size, 1, none⟩ = some (.string tx) := blk_cell hbx 1; clear b2))
          go_ret2
          exact ⟨by first | rfl | (rw [hKn]; rfl), hB⟩
        | true =>
          by_cases hl5 : last = 5
          · subst hl5
            have hbad : tokBad 5 ⟨2, tx, tl, ta⟩ = false := by simp [tokBad, hvd]
            have hs1 : sepBytes 5 ⟨2, tx, tl, ta⟩ = [] := by simp [sepBytes, hvd]
            have hs2 : tokBytes ⟨2, tx, tl, ta⟩ = quoteL tx := by simp [tokBytes]
            have hnx : writeFrom (l0.drop (i + 1)) 2 (acc ++ ([] : List UInt8) ++ quoteL tx) = K := by rw [← HWF.out]; simp only [writeFrom, hbad, hs1, hs2]; rfl
            have HNX := Aside0.mk hnx
            clear hbad hnx hs1 hs2
            go_wp2_with (first | (go_at_call 22; refine (Tryd.utf8_ValidString tx _ (by omega) hGx).mono ?_; rintro e W2 ⟨rfl, b2⟩; rw [hvd]; replace hI := IsB.below hI b2; replace hbx := blk_below hbx b2; replace hB := hB.trans (b2.mono hsz); replace hsz := hB.size; replace hGx := hG0.below hB; have d0 : W2.cell? ⟨wr.heap.size, 0, none⟩ = some (.int .u8 2) := blk_cell hbx 0; have d1 : W2.cell? ⟨wr.heap.size, 1, none⟩ = some (.string tx) := blk_cell hbx 1; clear b2) | (go_at_call 25; refine (quote_calls tx _ (by omega)).mono ?_; rintro e W2 ⟨rfl, b2⟩; replace hI := IsB.below hI b2; replace hbx := blk_below hbx b2; replace hB := hB.trans (b2.mono hsz); replace hsz := hB.size; replace hGx := hG0.below hB; have d0 : W2.cell? ⟨wr.heap.size, 0, none⟩ = some (.int .u8 2) := blk_cell hbx 0; have d1 : W2.cell? ⟨wr.heap.size, 1, none⟩ = some (.string tx) := blk_cell hbx 1; clear b2) | (go_at_call 24; refine (Builder_WriteString_k w.heap.size w.heap.size _ ⟨(quoteL tx).toArray⟩ _ hI (by simp only [List.length_append, List.length_cons, List.length_nil, Lib.byteCells_length]; omega) hsz).mono ?_; rintro e W2 ⟨rfl, h2, b2, k2⟩; replace hI : IsB w.heap.size w.heap.size _ W2 := Or.inr h2; replace hbx := k2 _ _ hbx hne hnc; replace hB := hB.trans b2; replace hsz := hB.size; replace hGx := hG0.below hB; have d0 : W2.cell? ⟨wr.heap.size, 0, none⟩ = some (.int .u8 2) := blk_cell hbx 0; have d1 : W2.cell? ⟨wr.heap.size, 1, none⟩ = some (.string tx) := blk_cell hbx 1; clear h2 b2 k2))
            go_roundw
            case rel =>
              refine ⟨i + 1, 2, _, rfl, (by first | rfl | exact w64 (by omega) (by omega) | (simp; done)), IsB_of hI ?_, hB, HNX.out, by omega, by simp only [List.length_append, List.length_cons, List.length_nil]; omega⟩
              first | rfl | (simp only [Lib.byteCells_append, strCells_of, strCells_tx]; first | rfl | (simp [Lib.byteCells]; done))
            case measure => simp only [intOf]; omega
          · have hl5a : (last == 5) = false := by rw [beq_eq_false_iff_ne]; exact hl5
            have hl5b : (last != 5) = true := by rw [bne_iff_ne]; exact hl5
            by_cases hl4 : last = 4
            · subst hl4
              have hbad : tokBad 4 ⟨2, tx, tl, ta⟩ = false := by simp [tokBad, hvd]
              have hs1 : sepBytes 4 ⟨2, tx, tl, ta⟩ = [] := by simp [sepBytes, hvd]
              have hs2 : tokBytes ⟨2, tx, tl, ta⟩ = quoteL tx := by simp [tokBytes]
              have hnx : writeFrom (l0.drop (i + 1)) 2 (acc ++ ([] : List UInt8) ++ quoteL tx) = K := by rw [← HWF.out]; simp only [writeFrom, hbad, hs1, hs2]; rfl
              have HNX := Aside0.mk hnx
              clear hbad hnx hs1 hs2
              go_wp2_with (first | (go_at_call 22; refine (Tryd.utf8_ValidString tx _ (by omega) hGx).mono ?_; rintro e W2 ⟨rfl, b2⟩; rw [hvd]; replace hI := IsB.below hI b2; replace hbx := blk_below hbx b2; replace hB := hB.trans (b2.mono hsz); replace hsz := hB.size; replace hGx := hG0.below hB; have d0 : W2.cell? ⟨wr.heap.size, 0, none⟩ = some (.int .u8 2) := blk_cell hbx 0; have d1 : W2.cell? ⟨wr.heap.size, 1, none⟩ = some (.string tx) := blk_cell hbx 1; clear b2) | (go_at_call 25; refine (quote_calls tx _ (by omega)).mono ?_; rintro e W2 ⟨rfl, b2⟩; replace hI := IsB.below hI b2; replace hbx := blk_below hbx b2; replace hB := hB.trans (b2.mono hsz); replace hsz := hB.size; replace hGx := hG0.below hB; have d0 : W2.cell? ⟨wr.heap.size, 0, none⟩ = some (.int .u8 2) := blk_cell hbx 0; have d1 : W2.cell? ⟨wr.heap.size, 1, none⟩ = some (.string tx) := blk_cell hbx 1; clear b2) | (go_at_call 24; refine (Builder_WriteString_k w.heap.size w.heap.size _ ⟨(quoteL tx).toArray⟩ _ hI (by simp only [List.length_append, List.length_cons, List.length_nil, Lib.byteCells_length]; omega) hsz).mono ?_; rintro e W2 ⟨rfl, h2, b2, k2⟩; replace hI : IsB w.heap.size w.heap.size _ W2 := Or.inr h2; replace hbx := k2 _ _ hbx hne hnc; replace hB := hB.trans b2; replace hsz := hB.size; replace hGx := hG0.below hB; have d0 : W2.cell? ⟨wr.heap.size, 0, none⟩ = some (.int .u8 2) := blk_cell hbx 0; have d1 : W2.cell? ⟨wr.heap.size, 1, none⟩ = some (.string tx) := blk_cell hbx 1; clear h2 b2 k2))
              go_roundw
              case rel =>
                refine ⟨i + 1, 2, _, rfl, (by first | rfl | exact w64 (by omega) (by omega) | (simp; done)), IsB_of hI ?_, hB, HNX.out, by omega, by simp only [List.length_append, List.length_cons, List.length_nil]; omega⟩
                first | rfl | (simp only [Lib.byteCells_append, strCells_of, strCells_tx]; first | rfl | (simp [Lib.byteCells]; done))
              case measure => simp only [intOf]; omega
            · have hl4a : (last == 4) = false := by rw [beq_eq_false_iff_ne]; exact hl4
              have hl4b : (last != 4) = true := by rw [bne_iff_ne]; exact hl4
              have hbad : tokBad last ⟨2, tx, tl, ta⟩ = false := by simp [tokBad, hvd, hl5, hl4]
              have hs1 : sepBytes last ⟨2, tx, tl, ta⟩ = [32] := by simp [sepBytes, hvd, hl5, hl4]
              have hs2 : tokBytes ⟨2, tx, tl, ta⟩ = quoteL tx := by simp [tokBytes]
              have hnx : writeFrom (l0.drop (i + 1)) 2 (acc ++ [32] ++ quoteL tx) = K := by rw [← HWF.out]; simp only [writeFrom, hbad, hs1, hs2]; rfl
              have HNX := Aside0.mk hnx
              clear hbad hnx hs1 hs2
              go_wp2_with (first | (go_at_call 22; refine (Tryd.utf8_ValidString tx _ (by omega) hGx).mono ?_; rintro e W2 ⟨rfl, b2⟩; rw [hvd]; replace hI := IsB.below hI b2; replace hbx := blk_below hbx b2; replace hB := hB.trans (b2.mono hsz); replace hsz := hB.size; replace hGx := hG0.below hB; have d0 : W2.cell? ⟨wr.heap.size, 0, none⟩ = some (.int .u8 2) := blk_cell hbx 0; have d1 : W2.cell? ⟨wr.heap.size, 1, none⟩ = some (.string tx) := blk_cell hbx 1; clear b2) | (go_at_call 23; refine (WriteByte_calls w.heap.size w.heap.size _ _ _ hI (by simp only [List.length_append, List.length_cons, List.length_nil, Lib.byteCells_length, Lib.strCells_length]; omega) hsz).mono ?_; rintro e W2 ⟨rfl, h2, b2, k2⟩; replace hI : IsB w.heap.size w.heap.size _ W2 := Or.inr h2; replace hbx := k2 _ _ hbx hne hnc; replace hB := hB.trans b2; replace hsz := hB.size; replace hGx := hG0.below hB; have d0 : W2.cell? ⟨wr.heap.size, 0, none⟩ = some (.int .u8 2) := blk_cell hbx 0; have d1 : W2.cell? ⟨wr.heap.size, 1, none⟩ = some (.string tx) := blk_cell hbx 1; clear h2 b2 k2) | (go_at_call 25; refine (quote_calls tx _ (by omega)).mono ?_; rintro e W2 ⟨rfl, b2⟩; replace hI := IsB.below hI b2; replace hbx := blk_below hbx b2; replace hB := hB.trans (b2.mono hsz); replace hsz := hB.size; replace hGx := hG0.below hB; have d0 : W2.cell? ⟨wr.heap.size, 0, none⟩ = some (.int .u8 2) := blk_cell hbx 0; have d1 : W2.cell? ⟨wr.heap.size, 1, none⟩ = some (.string tx) := blk_cell hbx 1; clear b2) | (go_at_call 24; refine (Builder_WriteString_k w.heap.size w.heap.size _ ⟨(quoteL tx).toArray⟩ _ hI (by simp only [List.length_append, List.length_cons, List.length_nil, Lib.byteCells_length]; omega) hsz).mono ?_; rintro e W2 ⟨rfl, h2, b2, k2⟩; replace hI : IsB w.heap.size w.heap.size _ W2 := Or.inr h2; replace hbx := k2 _ _ hbx hne hnc; replace hB := hB.trans b2; replace hsz := hB.size; replace hGx := hG0.below hB; have d0 : W2.cell? ⟨wr.heap.size, 0, none⟩ = some (.int .u8 2) := blk_cell hbx 0; have d1 : W2.cell? ⟨wr.heap.size, 1, none⟩ = some (.string tx) := blk_cell hbx 1; clear h2 b2 k2))
              go_roundw
              case rel =>
                refine ⟨i + 1, 2, _, rfl, (by first | rfl | exact w64 (by omega) (by omega) | (simp; done)), IsB_of hI ?_, hB, HNX.out, by omega, by simp only [List.length_append, List.length_cons, List.length_nil]; omega⟩
                first | rfl | (simp only [Lib.byteCells_append, strCells_of, strCells_tx]; first | rfl | (simp [Lib.byteCells]; done))
              case measure => simp only [intOf]; omega
      · obtain rfl := size0 tx hz
        by_cases hl5 : last = 5
        · subst hl5
          have hbad : tokBad 5 ⟨3, ⟨#[]⟩, tl, ta⟩ = false := by simp [tokBad, size00]
          have hs1 : sepBytes 5 ⟨3, ⟨#[]⟩, tl, ta⟩ = [] := by simp [sepBytes, size00]
          have hs2 : tokBytes ⟨3, ⟨#[]⟩, tl, ta⟩ = [44] := by simp [tokBytes]
          have hnx : writeFrom (l0.drop (i + 1)) 3 (acc ++ ([] : List UInt8) ++ [44]) = K := by rw [← HWF.out]; simp only [writeFrom, hbad, hs1, hs2]; rfl
          have HNX := Aside0.mk hnx
          clear hbad hnx hs1 hs2
          go_wp2_with (first | (go_at_call 23; refine (WriteByte_calls w.heap.size w.heap.size _ _ _ hI (by simp only [List.length_append, List.length_cons, List.length_nil, Lib.byteCells_length, Lib.strCells_length]; omega) hsz).mono ?_; rintro e W2 ⟨rfl, h2, b2, k2⟩; replace hI : IsB w.heap.size w.heap.size _ W2 := Or.inr h2; replace hbx := k2 _ _ hbx hne hnc; replace hB := hB.trans b2; replace hsz := hB.size; replace hGx := hG0.below hB; have d0 : W2.cell? ⟨wr.heap.size, 0, none⟩ = some (.int .u8 3) := blk_cell hbx 0; have d1 : W2.cell? ⟨wr.heap.size, 1, none⟩ = some (.string ⟨#[]⟩) := blk_cell hbx 1; clear h2 b2 k2))
          go_roundw
          case rel =>
            refine ⟨i + 1, 3, _, rfl, (by first | rfl | exact w64 (by omega) (by omega) | (simp; done)), IsB_of hI ?_, hB, HNX.out, by omega, by simp only [List.length_append, List.length_cons, List.length_nil]; omega⟩
            first | rfl | (simp only [Lib.byteCells_append, strCells_of, strCells_tx]; first | rfl | (simp [Lib.byteCells]; done))
          case measure => simp only [intOf]; omega
        · have hl5a : (last == 5) = false := by rw [beq_eq_false_iff_ne]; exact hl5
          have hl5b : (last != 5) = true := by rw [bne_iff_ne]; exact hl5
          by_cases hl4 : last = 4
          · subst hl4
            have hbad : tokBad 4 ⟨3, ⟨#[]⟩, tl, ta⟩ = false := by simp [tokBad, size00]
            have hs1 : sepBytes 4 ⟨3, ⟨#[]⟩, tl, ta⟩ = [] := by simp [sepBytes, size00]
            have hs2 : tokBytes ⟨3, ⟨#[]⟩, tl, ta⟩ = [44] := by simp [tokBytes]
            have hnx : writeFrom (l0.drop (i + 1)) 3 (acc ++ ([] : List UInt8) ++ [44]) = K := by rw [← HWF.out]; simp only [writeFrom, hbad, hs1, hs2]; rfl
            have HNX := Aside0.mk hnx
            clear hbad hnx hs1 hs2
            go_wp2_with (first | (go_at_call 23; refine (WriteByte_calls w.heap.size w.heap.size _ _ _ hI (by simp only [List.length_append, List.length_cons, List.length_nil, Lib.byteCells_length, Lib.strCells_length]; omega) hsz).mono ?_; rintro e W2 ⟨rfl, h2, b2, k2⟩; replace hI : IsB w.heap.size w.heap.size _ W2 := Or.inr h2; replace hbx := k2 _ _ hbx hne hnc; replace hB := hB.trans b2; replace hsz := hB.size; replace hGx := hG0.below hB; have d0 : W2.cell? ⟨wr.heap.size, 0, none⟩ = some (.int .u8 3) := blk_cell hbx 0; have d1 : W2.cell? ⟨wr.heap.size, 1, none⟩ = some (.string ⟨#[]⟩) := blk_cell hbx 1; clear h2 b2 k2))
            go_roundw
            case rel =>
              refine ⟨i + 1, 3, _, rfl, (by first | rfl | exact w64 (by omega) (by omega) | (simp; done)), IsB_of hI ?_, hB, HNX.out, by omega, by simp only [List.length_append, List.length_cons, List.length_nil]; omega⟩
              first | rfl | (simp only [Lib.byteCells_append, strCells_of, strCells_tx]; first | rfl | (simp [Lib.byteCells]; done))
            case measure => simp only [intOf]; omega
          · have hl4a : (last == 4) = false := by rw [beq_eq_false_iff_ne]; exact hl4
            have hl4b : (last != 4) = true := by rw [bne_iff_ne]; exact hl4
            have hbad : tokBad last ⟨3, ⟨#[]⟩, tl, ta⟩ = false := by simp [tokBad, size00, hl5, hl4]
            have hs1 : sepBytes last ⟨3, ⟨#[]⟩, tl, ta⟩ = [] := by simp [sepBytes, size00, hl5, hl4]
            have hs2 : tokBytes ⟨3, ⟨#[]⟩, tl, ta⟩ = [44] := by simp [tokBytes]
            have hnx : writeFrom (l0.drop (i + 1)) 3 (acc ++ ([] : List UInt8) ++ [44]) = K := by rw [← HWF.out]; simp only [writeFrom, hbad, hs1, hs2]; rfl
            have HNX := Aside0.mk hnx
            clear hbad hnx hs1 hs2
            go_wp2_with (first | (go_at_call 23; refine (WriteByte_calls w.heap.size w.heap.size _ _ _ hI (by simp only [List.length_append, List.length_cons, List.length_nil, Lib.byteCells_length, Lib.strCells_length]; omega) hsz).mono ?_; rintro e W2 ⟨rfl, h2, b2, k2⟩; replace hI : IsB w.heap.size w.heap.size _ W2 := Or.inr h2; replace hbx := k2 _ _ hbx hne hnc; replace hB := hB.trans b2; replace hsz := hB.size; replace hGx := hG0.below hB; have d0 : W2.cell? ⟨wr.heap.size, 0, none⟩ = some (.int .u8 3) := blk_cell hbx 0; have d1 : W2.cell? ⟨wr.heap.size, 1, none⟩ = some (.string ⟨#[]⟩) := blk_cell hbx 1; clear h2 b2 k2))
            go_roundw
            case rel =>
              refine ⟨i + 1, 3, _, rfl, (by first | rfl | exact w64 (by omega) (by omega) | (simp; done)), IsB_of hI ?_, hB, HNX.out, by omega, by simp only [List.length_append, List.length_cons, List.length_nil]; omega⟩
              first | rfl | (simp only [Lib.byteCells_append, strCells_of, strCells_tx]; first | rfl | (simp [Lib.byteCells]; done))
            case measure => simp only [intOf]; omega
      · obtain rfl := size0 tx hz
        by_cases hl5 : last = 5
        · subst hl5
          have hbad : tokBad 5 ⟨4, ⟨#[]⟩, tl, ta⟩ = false := by simp [tokBad, size00]
          have hs1 : sepBytes 5 ⟨4, ⟨#[]⟩, tl, ta⟩ = [] := by simp [sepBytes, size00]
          have hs2 : tokBytes ⟨4, ⟨#[]⟩, tl, ta⟩ = [33] := by simp [tokBytes]
          have hnx : writeFrom (l0.drop (i + 1)) 4 (acc ++ ([] : List UInt8) ++ [33]) = K := by rw [← HWF.out]; simp only [writeFrom, hbad, hs1, hs2]; rfl
          have HNX := Aside0.mk hnx
          clear hbad hnx hs1 hs2
          go_wp2_with (first | (go_at_call 23; refine (WriteByte_calls w.heap.size w.heap.size _ _ _ hI (by simp only [List.length_append, List.length_cons, List.length_nil, Lib.byteCells_length, Lib.strCells_length]; omega) hsz).mono ?_; rintro e W2 ⟨rfl, h2, b2, k2⟩; replace hI : IsB w.heap.size w.heap.size _ W2 := Or.inr h2; replace hbx := k2 _ _ hbx hne hnc; replace hB := hB.trans b2; replace hsz := hB.size; replace hGx := hG0.below hB; have d0 : W2.cell? ⟨wr.heap.size, 0, none⟩ = some (.int .u8 4) := blk_cell hbx 0; have d1 : W2.cell? ⟨wr.heap.size, 1, none⟩ = some (.string ⟨#[]⟩) := blk_cell hbx 1; clear h2 b2 k2))
          go_roundw
          case rel =>
            refine ⟨i + 1, 4, _, rfl, (by first | rfl | exact w64 (by omega) (by omega) | (simp; done)), IsB_of hI ?_, hB, HNX.out, by omega, by simp only [List.length_append, List.length_cons, List.length_nil]; omega⟩
            first | rfl | (simp only [Lib.byteCells_append, strCells_of, strCells_tx]; first | rfl | (simp [Lib.byteCells]; done))
          case measure => simp only [intOf]; omega
        · have hl5a : (last == 5) = false := by rw [beq_eq_false_iff_ne]; exact hl5
          have hl5b : (last != 5) = true := by rw [bne_iff_ne]; exact hl5
          by_cases hl4 : last = 4
          · subst hl4
            have hbad : tokBad 4 ⟨4, ⟨#[]⟩, tl, ta⟩ = false := by simp [tokBad, size00]
            have hs1 : sepBytes 4 ⟨4, ⟨#[]⟩, tl, ta⟩ = [] := by simp [sepBytes, size00]
            have hs2 : tokBytes ⟨4, ⟨#[]⟩, tl, ta⟩ = [33] := by simp [tokBytes]
            have hnx : writeFrom (l0.drop (i + 1)) 4 (acc ++ ([] : List UInt8) ++ [33]) = K := by rw [← HWF.out]; simp only [writeFrom, hbad, hs1, hs2]; rfl
            have HNX := Aside0.mk hnx
            clear hbad hnx hs1 hs2
            go_wp2_with (first | (go_at_call 23; refine (WriteByte_calls w.heap.size w.heap.size _ _ _ hI (by simp only [List.length_append, List.length_cons, List.length_nil, Lib.byteCells_length, Lib.strCells_length]; omega) hsz).mono ?_; rintro e W2 ⟨rfl, h2, b2, k2⟩; replace hI : IsB w.heap.size w.heap.size _ W2 := Or.inr h2; replace hbx := k2 _ _ hbx hne hnc; replace hB := hB.trans b2; replace hsz := hB.size; replace hGx := hG0.below hB; have d0 : W2.cell? ⟨wr.heap.size, 0, none⟩ = some (.int .u8 4) := blk_cell hbx 0; have d1 : W2.cell? ⟨wr.heap.size, 1, none⟩ = some (.string ⟨#[]⟩) := blk_cell hbx 1; clear h2 b2 k2))
            go_roundw
            case rel =>
              refine ⟨i + 1, 4, _, rfl, (by first | rfl | exact w64 (by omega) (by omega) | (simp; done)), IsB_of hI ?_, hB, HNX.out, by omega, by simp only [List.length_append, List.length_cons, List.length_nil]; omega⟩
              first | rfl | (simp only [Lib.byteCells_append, strCells_of, strCells_tx]; first | rfl | (simp [Lib.byteCells]; done))
            case measure => simp only [intOf]; omega
          · have hl4a : (last == 4) = false := by rw [beq_eq_false_iff_ne]; exact hl4
            have hl4b : (last != 4) = true := by rw [bne_iff_ne]; exact hl4
            have hbad : tokBad last ⟨4, ⟨#[]⟩, tl, ta⟩ = false := by simp [tokBad, size00, hl5, hl4]
            have hs1 : sepBytes last ⟨4, ⟨#[]⟩, tl, ta⟩ = [32] := by simp [sepBytes, size00, hl5, hl4]
            have hs2 : tokBytes ⟨4, ⟨#[]⟩, tl, ta⟩ = [33] := by simp [tokBytes]
            have hnx : writeFrom (l0.drop (i + 1)) 4 (acc ++ [32] ++ [33]) = K := by rw [← HWF.out]; simp only [writeFrom, hbad, hs1, hs2]; rfl
            have HNX := Aside0.mk hnx
            clear hbad hnx hs1 hs2
            go_wp2_with (first | (go_at_call 23; refine (WriteByte_calls w.heap.size w.heap.size _ _ _ hI (by simp only [List.length_append, List.length_cons, List.length_nil, Lib.byteCells_length, Lib.strCells_length]; omega) hsz).mono ?_; rintro e W2 ⟨rfl, h2, b2, k2⟩; replace hI : IsB w.heap.size w.heap.size _ W2 := Or.inr h2; replace hbx := k2 _ _ hbx hne hnc; replace hB := hB.trans b2; replace hsz := hB.size; replace hGx := hG0.below hB; have d0 : W2.cell? ⟨wr.heap.size, 0, none⟩ = some (.int .u8 4) := blk_cell hbx 0; have d1 : W2.cell? ⟨wr.heap.size, 1, none⟩ = some (.string ⟨#[]⟩) := blk_cell hbx 1; clear h2 b2 k2))
            go_roundw
            case rel =>
              refine ⟨i + 1, 4, _, rfl, (by first | rfl | exact w64 (by omega) (by omega) | (simp; done)), IsB_of hI ?_, hB, HNX.out, by omega, by simp only [List.length_append, List.length_cons, List.length_nil]; omega⟩
              first | rfl | (simp only [Lib.byteCells_append, strCells_of, strCells_tx]; first | rfl | (simp [Lib.byteCells]; done))
            case measure => simp only [intOf]; omega
      · obtain rfl := size0 tx hz
        by_cases hl5 : last = 5
        · subst hl5
          have hbad : tokBad 5 ⟨5, ⟨#[]⟩, tl, ta⟩ = true := by simp [tokBad, size00]
          have hKn : K = none := by rw [← HWF.out]; simp only [writeFrom, hbad, if_true]
          clear hbad
          go_wp2
          go_ret2
          exact ⟨by first | rfl | (rw [hKn]; rfl), hB⟩
        · have hl5a : (last == 5) = false := by rw [beq_eq_false_iff_ne]; exact hl5
          have hl5b : (last != 5) = true := by rw [bne_iff_ne]; exact hl5
          by_cases hl4 : last = 4
          · subst hl4
            have hbad : tokBad 4 ⟨5, ⟨#[]⟩, tl, ta⟩ = false := by simp [tokBad, size00]
            have hs1 : sepBytes 4 ⟨5, ⟨#[]⟩, tl, ta⟩ = [] := by simp [sepBytes, size00]
            have hs2 : tokBytes ⟨5, ⟨#[]⟩, tl, ta⟩ = [10] := by simp [tokBytes]
            have hnx : writeFrom (l0.drop (i + 1)) 5 (acc ++ ([] : List UInt8) ++ [10]) = K := by rw [← HWF.out]; simp only [writeFrom, hbad, hs1, hs2]; rfl
            have HNX := Aside0.mk hnx
            clear hbad hnx hs1 hs2
            go_wp2_with (first | (go_at_call 23; refine (WriteByte_calls w.heap.size w.heap.size _ _ _ hI (by simp only [List.length_append, List.length_cons, List.length_nil, Lib.byteCells_length, Lib.strCells_length]; omega) hsz).mono ?_; rintro e W2 ⟨rfl, h2, b2, k2⟩; replace hI : IsB w.heap.size w.heap.size _ W2 := Or.inr h2; replace hbx := k2 _ _ hbx hne hnc; replace hB := hB.trans b2; replace hsz := hB.size; replace hGx := hG0.below hB; have d0 : W2.cell? ⟨wr.heap.size, 0, none⟩ = some (.int .u8 5) := blk_cell hbx 0; have d1 : W2.cell? ⟨wr.heap.size, 1, none⟩ = some (.string ⟨#[]⟩) := blk_cell hbx 1; clear h2 b2 k2))
            go_roundw
            case rel =>
              refine ⟨i + 1, 5, _, rfl, (by first | rfl | exact w64 (by omega) (by omega) | (simp; done)), IsB_of hI ?_, hB, HNX.out, by omega, by simp only [List.length_append, List.length_cons, List.length_nil]; omega⟩
              first | rfl | (simp only [Lib.byteCells_append, strCells_of, strCells_tx]; first | rfl | (simp [Lib.byteCells]; done))
            case measure => simp only [intOf]; omega
          · have hl4a : (last == 4) = false := by rw [beq_eq_false_iff_ne]; exact hl4
            have hl4b : (last != 4) = true := by rw [bne_iff_ne]; exact hl4
            have hbad : tokBad last ⟨5, ⟨#[]⟩, tl, ta⟩ = false := by simp [tokBad, size00, hl5, hl4]
            have hs1 : sepBytes last ⟨5, ⟨#[]⟩, tl, ta⟩ = [] := by simp [sepBytes, size00, hl5, hl4]
            have hs2 : tokBytes ⟨5, ⟨#[]⟩, tl, ta⟩ = [10] := by simp [tokBytes]
            have hnx : writeFrom (l0.drop (i + 1)) 5 (acc ++ ([] : List UInt8) ++ [10]) = K := by rw [← HWF.out]; simp only [writeFrom, hbad, hs1, hs2]; rfl
            have HNX := Aside0.mk hnx
            clear hbad hnx hs1 hs2
            go_wp2_with (first | (go_at_call 23; refine (WriteByte_calls w.heap.size w.heap.size _ _ _ hI (by simp only [List.length_append, List.length_cons, List.length_nil, Lib.byteCells_length, Lib.strCells_length]; omega) hsz).mono ?_; rintro e W2 ⟨rfl, h2, b2, k2⟩; replace hI : IsB w.heap.size w.heap.size _ W2 := Or.inr h2; replace hbx := k2 _ _ hbx hne hnc; replace hB := hB.trans b2; replace hsz := hB.size; replace hGx := hG0.below hB; have d0 : W2.cell? ⟨wr.heap.size, 0, none⟩ = some (.int .u8 5) := blk_cell hbx 0; have d1 : W2.cell? ⟨wr.heap.size, 1, none⟩ = some (.string ⟨#[]⟩) := blk_cell hbx 1; clear h2 b2 k2))
            go_roundw
            case rel =>
              refine ⟨i + 1, 5, _, rfl, (by first | rfl | exact w64 (by omega) (by omega) | (simp; done)), IsB_of hI ?_, hB, HNX.out, by omega, by simp only [List.length_append, List.length_cons, List.length_nil]; omega⟩
              first | rfl | (simp only [Lib.byteCells_append, strCells_of, strCells_tx]; first | rfl | (simp [Lib.byteCells]; done))
            case measure => simp only [intOf]; omega
      · have e1 : (k == 1) = false := by rw [beq_eq_false_iff_ne]; omega
        have e2 : (k == 2) = false := by rw [beq_eq_false_iff_ne]; omega
        have he : tx.toList.isEmpty = false := by
          rw [Lib.toList_data]
          rw [Lib.size_eq] at hz
          cases hdl : tx.data.toList with
          | nil => rw [hdl] at hz; exact absurd rfl hz
          | cons a l => rfl
        have hbad : tokBad last ⟨k, tx, tl, ta⟩ = true := by simp [tokBad, hk, hz]
        have hKn : K = none := by rw [← HWF.out]; simp only [writeFrom, hbad, if_true]
        clear hbad
        go_wp2
        go_ret2
        exact ⟨by first | rfl | (rw [hKn]; rfl), hB⟩
      · have e1 : (k == 1) = false := by rw [beq_eq_false_iff_ne]; omega
        have e2 : (k == 2) = false := by rw [beq_eq_false_iff_ne]; omega
        have e5 : (k == 5) = false := by rw [beq_eq_false_iff_ne]; omega
        have e3 : ¬ 2 < k := by omega
        have hbad : tokBad last ⟨k, tx, tl, ta⟩ = true := by simp [tokBad, hk]
        have hKn : K = none := by rw [← HWF.out]; simp only [writeFrom, hbad, if_true]
        clear hbad
        go_wp2
        go_ret2
        exact ⟨by first | rfl | (rw [hKn]; rfl), hB⟩
      · obtain rfl := size0 tx hz
        have e1 : (k == 1) = false := by rw [beq_eq_false_iff_ne]; omega
        have e2 : (k == 2) = false := by rw [beq_eq_false_iff_ne]; omega
        have e5 : (k == 5) = false := by rw [beq_eq_false_iff_ne]; omega
        have e3 : 2 < k := by omega
        have e6 : ¬ k < 1 := by omega
        have hbad : tokBad last ⟨k, ⟨#[]⟩, tl, ta⟩ = true := by simp [tokBad, hk]
        have hKn : K = none := by rw [← HWF.out]; simp only [writeFrom, hbad, if_true]
        clear hbad
        go_wp2
        go_ret2
        exact ⟨by first | rfl | (rw [hKn]; rfl), hB⟩
    · have hp' : ¬ (i : Int) < (l0.length : Int) := by omega
      obtain rfl : i = l0.length := by omega
      rw [List.drop_length] at hwf hacc
      have hKs : K = some (last, acc) := hwf.symm
      have hsz := hB.size
      clear hwf
      by_cases hl5 : last = 5
      · subst hl5
        by_cases hlong : 65536 < acc.length
        · have hlong' : (65536 : Int) < ((Lib.byteCells acc).length : Int) := by rw [Lib.byteCells_length]; omega
          go_wp2_with (go_at_call 26; refine (Len_calls w.heap.size w.heap.size _ _ hI).mono ?_; rintro e W2 ⟨rfl, hw⟩; rw [hw])
          go_ret2
          exact ⟨by first | (rw [hKs]; simp [writeEnd, hlong]; done) | (simp [writeEnd, hlong]; done), hB⟩
        · have hlong' : ¬ (65536 : Int) < ((Lib.byteCells acc).length : Int) := by rw [Lib.byteCells_length]; omega
          go_wp2_with (first | (go_at_call 26; refine (Len_calls w.heap.size w.heap.size _ _ hI).mono ?_; rintro e W2 ⟨rfl, hw⟩; rw [hw]) | (go_at_call 27; refine (String_calls w.heap.size w.heap.size acc _ hI hsz).mono ?_; rintro e W3 ⟨rfl, _, b3, _⟩))
          go_ret2
          exact ⟨by first | (rw [hKs]; simp [writeEnd, hlong]; done) | (simp [writeEnd, hlong]; done), hB.trans b3⟩
      · have hl5a : (last == 5) = false := by rw [beq_eq_false_iff_ne]; exact hl5
        have hl5b : (last != 5) = true := by rw [bne_iff_ne]; exact hl5
        go_wp2
        go_ret2
        exact ⟨by first | (rw [hKs]; simp [writeEnd, hl5]; done) | (simp [writeEnd, hl5]; done), hB⟩
theorem lex_Write.calls (A0 : Option Addr) (c0 : Nat) (l0 : List S36) (r0 : ByteArray) (r1 : Int) (w : World) (hr0 : Kd.C k36 w A0 l0.length l0) (hc0 : l0.length ≤ c0) (hG : Glob w) (h : lex_Write.f l0 = some (r0, r1)) :
    Calls Tryd.prog 12 #[.slice A0 l0.length c0] w fun e w' => e = .returned (.tuple #[.string r0, .int .i64 r1]) ∧ Below w.heap.size w w' := by
  unfold lex_Write.f at h
  by_cases hs : toksize l0 ≤ 1048576
  · rw [if_pos hs] at h
    have hw := write_calls A0 c0 l0 w hr0 hc0 hG hs
    have h := Option.some.inj h
    rw [h] at hw
    exact hw
  · rw [if_neg hs] at h
    cases h
end Go.Proofs.YtfndanccnjggfaaDoor.Q

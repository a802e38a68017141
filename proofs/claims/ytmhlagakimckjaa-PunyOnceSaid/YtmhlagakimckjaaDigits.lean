import Derived.Test.YtmhlagakimckjaaNumber
namespace Go.Proofs.Ytmhlagakimckjaa.Q
open Go.RowKit Go.Proofs.YtmhlagakimckjaaW.PrintWords Go.Proofs.YtmhlagakimckjaaW.PrintLast Go.Proofs.YtmhlagakimckjaaW.PrintMore
attribute [local go_sem] max2_int min2_int max_two min_two max_three min_three max_four min_four
set_option linter.unusedVariables false
set_option linter.unusedSimpArgs false

def ltr (d : Int) : Int := if d < 26 then 97 + d else 22 + d
def abc : ByteArray := ⟨#[97, 98, 99, 100, 101, 102, 103, 104, 105, 106, 107, 108, 109, 110, 111, 112, 113, 114, 115, 116, 117, 118, 119, 120, 121, 122, 48, 49, 50, 51, 52, 53, 54, 55, 56, 57]⟩
theorem abc_ltr : ∀ d : Fin 36, bt abc (d.val : Int) = ltr d.val := by decide
theorem letter_calls (d : Int) (w : World) (h0 : 0 ≤ d) (h1 : d ≤ 35) : Calls Try.prog 34 #[.int .i64 d] w fun e w' => e = .returned (.int .u8 (ltr d)) ∧ w = w' := by
  have hd : ltr d = bt abc d := by
    have := abc_ltr ⟨d.toNat, by omega⟩
    simp only [Int.toNat_of_nonneg h0] at this
    exact this.symm
  have hat := bt_at abc d
  rw [hd]
  go_enter Try.func34, Try.ntmps34
  go_wp2
  go_ret
  exact ⟨ret_int (hat (by show d.toNat < 36; omega)), rfl⟩

/-- The digits of a delta (so many rounds at most). -/
def digs : Nat → Int → Int → Int → List Int
  | 0, _, _, _ => []
  | f + 1, q, k, bias =>
    if q < thr k bias then [ltr q] else
    ltr (thr k bias + (q - thr k bias) % (36 - thr k bias)) :: digs f ((q - thr k bias) / (36 - thr k bias)) (k + 36) bias

theorem quo_less {q t : Int} (h : t ≤ q) (t0 : 1 ≤ t) (t1 : t ≤ 26) : 0 ≤ (q - t) / (36 - t) ∧ (q - t) / (36 - t) + 1 ≤ q ∧ 0 ≤ (q - t) % (36 - t) ∧ (q - t) % (36 - t) < 36 - t := by
  have h1 : (q - t) / (36 - t) ≤ q - t := Int.ediv_le_self _ (by omega)
  exact ⟨Int.ediv_nonneg (by omega) (by omega), by omega, Int.emod_nonneg _ (by omega), Int.emod_lt_of_pos _ (by omega)⟩

theorem digs_fuel0 (bias : Int) : ∀ (f : Nat) (q k : Int), q.toNat + 1 ≤ f → digs f q k bias = digs (q.toNat + 1) q k bias := by
  intro f
  induction f using Nat.strongRecOn with
  | _ f ih =>
    intro q k hf
    cases f with
    | zero => omega
    | succ f =>
      have ht := thr_bd k bias
      rw [digs, digs]
      by_cases h : q < thr k bias
      · rw [if_pos h, if_pos h]
      · rw [if_neg h, if_neg h]
        have hq := quo_less (by omega : thr k bias ≤ q) ht.1 ht.2
        congr 1
        rw [ih f (by omega) _ _ (by omega), ih q.toNat (by omega) _ _ (by omega)]

theorem digs_fuel (f : Nat) (q k bias : Int) (h : q.toNat + 1 ≤ f) : digs f q k bias = digs (q.toNat + 1) q k bias := digs_fuel0 bias f q k h

def puny_digits.f (l0 : List Int) (q bias : Int) : Option (List Int) :=
  if 0 ≤ q ∧ q ≤ 70368744177664 ∧ l0.length ≤ 1099511627776 ∧ -4294967296 ≤ bias ∧ bias ≤ 4294967296 then some (l0 ++ digs (q.toNat + 1) q 36 bias) else none

set_option maxHeartbeats 2000000 in
theorem puny_digits.calls (P0_ : Nat → Prop) (u9000_ : Value) (l0 : List Int) (a1 : Int) (a2 : Int) (r : List Int) (w0 w : World) (hB : Below w0.heap.size w0 w) (ho0 : Kd.R (Kd.int .u8) 5 w w0.heap.size P0_ u9000_ l0) (h : puny_digits.f l0 a1 a2 = some r) :
    Calls Try.prog 20 #[u9000_, .int .i64 a1, .int .i64 a2] w fun e w' => ∃ v0_ : Value, e = .returned (v0_) ∧ Kd.R (Kd.int .u8) 5 w' w0.heap.size (fun k_ => (P0_ k_ ∨ w.heap.size ≤ k_)) v0_ r ∧ Below w0.heap.size w0 w' ∧ Kept w w' (fun k_ => P0_ k_) := by
  unfold puny_digits.f at h
  by_cases c : 0 ≤ a1 ∧ a1 ≤ 70368744177664 ∧ l0.length ≤ 1099511627776 ∧ -4294967296 ≤ a2 ∧ a2 ≤ 4294967296
  · rw [if_pos c] at h
    obtain ⟨q0, q1, hl, b0, b1⟩ := c
    have H := Lib.hid (Option.some.inj h)
    clear h
    have HR0 := Lib.hid (Kd.own_of_R ho0)
    have hz0 := hB.size
    suffices hs : Calls Try.prog 20 #[u9000_, .int .i64 a1, .int .i64 a2] w fun e w' => ∃ v0_ : Value, e = .returned (v0_) ∧ w'.ownsRow w0.heap.size 5 1 v0_ r.length (nums .u8 r) ∧ w.grownBy w' u9000_.ownBlock ∧
        (v0_.ownBlock = u9000_.ownBlock ∨ ∃ b, v0_.ownBlock = some b ∧ w.heap.size + 2 ≤ b) by
      refine hs.mono ?_
      rintro e w' ⟨v, rfl, h1, h2, h3⟩
      exact ⟨v, rfl, own_post hB ho0 h2 (hat_step (m := w.heap.size + 2) (.inl rfl) h3 (by omega)) h1 rfl⟩
    have hul : u9000_.ownBlock ≠ some (w.heap.size + 1) := fun e => by have := own_lt (Kd.own_of_R ho0) _ e; omega
    have hul0 : u9000_.ownBlock ≠ some w.heap.size := fun e => by have := own_lt (Kd.own_of_R ho0) _ e; omega
    clear hB ho0
    obtain ⟨i0, hi, hz0', hz1, hz2⟩ := info_parts info5
    go_enter Try.func20, Try.ntmps20
    go_wp2_with (first | (go_at_call 35; refine (thresholds_calls _ _).mono ?_; rintro e w' ⟨rfl, rfl⟩))
    go_loopw [0, 1] (fun v0 v1 wr => ∃ (n : Nat) (q : Int) (l : List Int), v1 = .int .i64 q ∧ 0 ≤ q ∧ q + n ≤ a1 ∧ l.length = l0.length + n ∧ Hid (l ++ digs (q.toNat + 1) q (36 * (n : Int) + 36) a2 = r) ∧
      wr.cell? ⟨w.heap.size + 1, 0, none⟩ = some (.int .i64 (36 * (n : Int))) ∧ wr.frozen? ⟨w.heap.size + 1, 0, none⟩ = false ∧ wr.cell? ⟨w.heap.size, 0, none⟩ = some (.int .i64 a2) ∧
      Hid (wr.ownsRow w0.heap.size 5 1 v0 l.length (nums .u8 l)) ∧ Hid (w.grownBy wr u9000_.ownBlock) ∧ Hid (v0.ownBlock = u9000_.ownBlock ∨ ∃ b, v0.ownBlock = some b ∧ w.heap.size + 2 ≤ b) ∧ w.heap.size + 2 ≤ wr.heap.size) (fun _ v1 _ => (intOf v1).toNat)
    case atStart =>
      refine ⟨0, a1, l0, rfl, q0, by omega, by omega, H, by simp, by simp, by simp, (HR0.out.alloc _).alloc _, grown_new (grown_new (grown_below (Below.refl _ _) _) _) _, .inl rfl, by simp⟩
    case round =>
      obtain ⟨n, q, l, rfl, hq0, hqn, hll, HA, hk, hkf, hb, HR, HG, HT, hzr⟩ := hrel
      have ht := thr_bd (36 * (n : Int) + 36) a2
      obtain ⟨t, htd⟩ : ∃ t, thr (36 * (n : Int) + 36) a2 = t := ⟨_, rfl⟩
      rw [htd] at ht
      obtain ⟨ht0, ht1⟩ := ht
      have hfar : u0.ownBlock ≠ some (w.heap.size + 1) := by
        rcases HT.out with e | ⟨b, e, hb⟩
        · rw [e]; exact hul
        · rw [e]; intro e2; cases e2; omega
      have HF := Lib.hid hfar
      have HS := fun x => Lib.hid (own_far (p := ⟨w.heap.size + 1, 0, none⟩) HR.out HF.out x)
      have hbase : w0.heap.size ≤ (wr.setCell ⟨w.heap.size + 1, 0, none⟩ (.int .i64 (36 * (n : Int) + 36))).heap.size := by simp; omega
      have HBS := Lib.hid hbase
      clear hfar hbase
      by_cases hqt : q < t
      · have hA : l ++ [ltr q] = r := by
          have := HA.out
          rw [digs, htd, if_pos hqt] at this
          exact this
        have HA2 := Lib.hid hA
        clear HA hA
        go_wp2_with (first | (go_at_call 53; refine (thresholds1_calls _ _ _ _ _ hk hkf hb (by omega) b0 b1 (by omega) (by omega)).mono ?_; rintro e w' ⟨rfl, rfl⟩) | (go_at_call 34; refine (letter_calls _ _ (by omega) (by omega)).mono ?_; rintro e w' ⟨rfl, rfl⟩) | (at_builtin; refine wpList_append_own_at _ rfl _ _ 34 rfl w0.heap.size 5 i0 (.int .u8 0) 1 1 Try.underlying34 hi hz0' hz1 hz2 rfl (by decide) _ _ _ rfl ((HS _).out.alloc _) ⟨wr.heap.size, 0, none⟩ 1 1 (nums .u8 [ltr q]) rfl rfl (nums_at' .u8 [ltr q] 5 _ _ (size_set _ _ _)) (nums_one _ _) (by unfold maxLen; omega) (by omega) (by simp; omega) ?_; intro v1 w1 hown hg _ hat))
        go_ret
        have h1 := hown
        rw [← nums_append, ← List.length_singleton (a := ltr q), ← List.length_append, HA2.out] at h1
        refine ⟨v1, rfl, h1, grown_step (grown_new (grown_set HG.out (by simp) _) _) hg (HT.out.imp id (fun ⟨b, e, h⟩ => ⟨b, e, by omega⟩)), ?_⟩
        exact hat_step (m := w.heap.size + 2) HT.out (hat.imp id (fun e => ⟨_, e, by simp; omega⟩)) (by omega)
      · obtain ⟨hd0, hd1, hm0, hm1⟩ := quo_less (by omega : t ≤ q) ht0 ht1
        have hA : l ++ [ltr (t + (q - t) % (36 - t))] ++ digs ((q - t) / (36 - t)).toNat.succ ((q - t) / (36 - t)) (36 * ((n + 1 : Nat) : Int) + 36) a2 = r := by
          have := HA.out
          rw [digs, htd, if_neg hqt, digs_fuel _ _ _ _ (by omega)] at this
          rw [List.append_assoc, List.singleton_append, show 36 * ((n + 1 : Nat) : Int) + 36 = 36 * (n : Int) + 36 + 36 from by omega]
          exact this
        have HA2 := Lib.hid hA
        obtain ⟨d, hdd⟩ : ∃ d, (q - t) / (36 - t) = d := ⟨_, rfl⟩
        obtain ⟨m, hmm⟩ : ∃ m, (q - t) % (36 - t) = m := ⟨_, rfl⟩
        rw [hdd] at hd0 hd1
        rw [hmm] at hm0 hm1
        have HD := Lib.hid hdd
        have HM := Lib.hid hmm
        clear HA hA
        go_wp2_with (first | (go_at_call 53; refine (thresholds1_calls _ _ _ _ _ hk hkf hb (by omega) b0 b1 (by omega) (by omega)).mono ?_; rintro e w' ⟨rfl, rfl⟩) | (go_at_call 34; refine (letter_calls _ _ (by omega) (by omega)).mono ?_; rintro e w' ⟨rfl, rfl⟩) | (at_builtin; refine wpList_append_own_at _ rfl _ _ 34 rfl w0.heap.size 5 i0 (.int .u8 0) 1 1 Try.underlying34 hi hz0' hz1 hz2 rfl (by decide) _ _ _ rfl ((HS _).out.alloc _) ⟨wr.heap.size, 0, none⟩ 1 1 (nums .u8 [ltr (t + m)]) rfl rfl (nums_at' .u8 [ltr (t + m)] 5 _ _ (size_set _ _ _)) (nums_one _ _) (by unfold maxLen; omega) (by omega) (by simp; omega) ?_; intro v1 w1 hown hg _ hat))
        have h1 := hown
        rw [← nums_append, ← List.length_singleton (a := ltr (t + m)), ← List.length_append] at h1
        have hA3 : l ++ [ltr (t + m)] ++ digs (d.toNat + 1) d (36 * ((n + 1 : Nat) : Int) + 36) a2 = r := by
          have := HA2.out
          rw [HD.out, HM.out] at this
          exact this
        go_roundw
        case measure => simp [intOf, HD.out]; omega
        case rel =>
          refine ⟨n + 1, d, l ++ [ltr (t + m)], by rw [HD.out], hd0, by omega, by simp; omega, hA3, ?_, ?_, ?_, h1, grown_step (grown_new (grown_set HG.out (by simp) _) _) hg (HT.out.imp id (fun ⟨b, e, h⟩ => ⟨b, e, by omega⟩)),
            hat_step (m := w.heap.size + 2) HT.out (hat.imp id (fun e => ⟨_, e, by simp; omega⟩)) (by omega), ?_⟩
          · rw [(set_new_grown hg hk hkf HF.out).1, show 36 * ((n + 1 : Nat) : Int) = 36 * (n : Int) + 36 from by omega]
          · exact (set_new_grown hg hk hkf HF.out).2
          · have hf0 : u0.ownBlock ≠ some w.heap.size := by
              rcases HT.out with e | ⟨b, e, hb⟩
              · rw [e]; exact hul0
              · rw [e]; intro e2; cases e2; omega
            exact other_new_grown hg hb (by omega) hf0
          · exact Nat.le_trans (by simp; omega) hg.size
  · rw [if_neg c] at h
    exact absurd h (by simp)
end Go.Proofs.Ytmhlagakimckjaa.Q

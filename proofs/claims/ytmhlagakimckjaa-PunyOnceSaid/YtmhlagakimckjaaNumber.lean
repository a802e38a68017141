import Derived.Test.YtmhlagakimckjaaMem
import Derived.Lib.Hide
namespace Go.Proofs.Ytmhlagakimckjaa.Q
open Go.RowKit Go.Proofs.YtmhlagakimckjaaW.PrintWords Go.Proofs.YtmhlagakimckjaaW.PrintLast Go.Proofs.YtmhlagakimckjaaW.PrintMore
attribute [local go_sem] max2_int min2_int max_two min_two max_three min_three max_four min_four
set_option linter.unusedVariables false
set_option linter.unusedSimpArgs false


def thr (k bias : Int) : Int := min (max (k - bias) 1) 26
theorem thr_bd (k bias : Int) : 1 ≤ thr k bias ∧ thr k bias ≤ 26 := by unfold thr; omega

set_option maxHeartbeats 400000 in
theorem thresholds_calls (bias : Int) (w : World) :
    Calls Try.prog 35 #[.int .i64 bias] w fun e w' =>
      e = .returned (.func (.func 53) #[] #[.pointer (some ⟨w.heap.size + 1, 0, none⟩), .pointer (some ⟨w.heap.size, 0, none⟩)]) ∧
      w' = (w.alloc (.cells #[.int .i64 bias] 3)).alloc (.cells #[.int .i64 0] 3) := by
  have hmf : ∀ (fn : Fn) (first cap : Array Value) (w : World), (Instr.makeFunc fn first cap).run Try.prog w = .ok (.func fn first cap) w := fun _ _ _ _ => rfl
  go_enter Try.func35, Try.ntmps35
  go_wp2
  go_ret
  exact ⟨rfl, rfl⟩

set_option maxHeartbeats 400000 in
theorem thresholds1_calls (k bias : Int) (kb bb : Nat) (w : World) (hk : w.cell? ⟨kb, 0, none⟩ = some (.int .i64 k)) (hkf : w.frozen? ⟨kb, 0, none⟩ = false) (hb : w.cell? ⟨bb, 0, none⟩ = some (.int .i64 bias)) (hne : bb ≠ kb)
    (b0 : -4294967296 ≤ bias) (b1 : bias ≤ 4294967296) (k0 : 0 ≤ k) (k1 : k ≤ 1152921504606846976) :
    Calls Try.prog 53 #[.pointer (some ⟨kb, 0, none⟩), .pointer (some ⟨bb, 0, none⟩)] w fun e w' =>
      e = .returned (.int .i64 (thr (k + 36) bias)) ∧ w' = w.setCell ⟨kb, 0, none⟩ (.int .i64 (k + 36)) := by
  go_enter Try.func53, Try.ntmps53
  go_wp2
  all_goals go_ret
  all_goals exact ⟨ret_int (by unfold thr; omega), rfl⟩

def dig (c : Int) : Int × Bool := if 97 ≤ c ∧ c ≤ 122 then (c - 97, true) else if 65 ≤ c ∧ c ≤ 90 then (c - 65, true) else if 48 ≤ c ∧ c ≤ 57 then (c - 48 + 26, true) else (0, false)

set_option maxHeartbeats 400000 in
theorem digit_calls (c : Int) (w : World) (h0 : 0 ≤ c) (h1 : c ≤ 255) :
    Calls Try.prog 38 #[.int .u8 c] w fun e w' => e = .returned (.tuple #[.int .i64 (dig c).1, .bool (dig c).2]) ∧ w = w' := by
  go_enter Try.func38, Try.ntmps38
  go_wp2
  all_goals go_ret2
  all_goals refine ⟨ret_ib ?_ ?_, rfl⟩
  all_goals (unfold dig; (repeat' split) <;> first | rfl | omega)

def num : List Int → Int → Int → Int → Int → Int × Int
  | [], _, _, _, _ => (0, 0)
  | c :: l, at_, i, wt, bias =>
    if (dig c).2 = false then (0, 0) else
    if 2147483647 < i + (dig c).1 * wt then (0, 0) else
    if (dig c).1 < thr (36 * at_ + 36) bias then (i + (dig c).1 * wt, at_ + 1) else
    if 2147483647 < wt * (36 - thr (36 * at_ + 36) bias) then (0, 0) else
    num l (at_ + 1) (i + (dig c).1 * wt) (wt * (36 - thr (36 * at_ + 36) bias)) bias

theorem dig_bd (c : Int) : 0 ≤ (dig c).1 ∧ (dig c).1 ≤ 35 := by unfold dig; (repeat' split) <;> constructor <;> simp <;> omega

theorem byte_at (s : ByteArray) (n : Nat) (h : n < s.size) : ∃ c : Int, 0 ≤ c ∧ c ≤ 255 ∧ ((s[n]'h).toNat : Int) = c ∧ (bytesOf s).drop n = c :: (bytesOf s).drop (n + 1) := by
  refine ⟨((s[n]'h).toNat : Int), by omega, by have := (s[n]'h).toNat_lt; omega, rfl, ?_⟩
  have hl : n < (bytesOf s).length := by rw [bytesOf_length]; exact h
  rw [List.drop_eq_getElem_cons hl]
  congr 1
  simp only [bytesOf, List.getElem_map]
  rfl

set_option maxHeartbeats 400000 in
theorem number_calls (s : ByteArray) (i bias : Int) (w : World) (hs : s.size ≤ 140737488351232) (i0 : 0 ≤ i) (i1 : i ≤ 2147483647) (b0 : -4294967296 ≤ bias) (b1 : bias ≤ 4294967296) :
    Calls Try.prog 27 #[.string s, .int .i64 i, .int .i64 bias] w fun e w' => e = .returned (.tuple #[.int .i64 (num (bytesOf s) 0 i 1 bias).1, .int .i64 (num (bytesOf s) 0 i 1 bias).2]) ∧ Below w.heap.size w w' := by
  obtain ⟨r, hr⟩ : ∃ r, num (bytesOf s) 0 i 1 bias = r := ⟨_, rfl⟩
  rw [hr]
  have H := Lib.hid hr
  clear hr
  go_enter Try.func27, Try.ntmps27
  go_wp2_with (first | (go_at_call 35; refine (thresholds_calls _ _).mono ?_; rintro e w' ⟨rfl, rfl⟩))
  go_loopw [1, 9, 18] (fun v1 v9 v18 wr => ∃ (n : Nat) (i wt : Int), v18 = .int .i64 n ∧ v1 = .int .i64 i ∧ v9 = .int .i64 wt ∧ n ≤ s.size ∧ Hid (num ((bytesOf s).drop n) n i wt bias = r) ∧ 0 ≤ i ∧ i ≤ 2147483647 ∧ 1 ≤ wt ∧ wt ≤ 2147483647 ∧
      wr.cell? ⟨w.heap.size + 1, 0, none⟩ = some (.int .i64 (36 * (n : Int))) ∧ wr.frozen? ⟨w.heap.size + 1, 0, none⟩ = false ∧ wr.cell? ⟨w.heap.size, 0, none⟩ = some (.int .i64 bias) ∧ Below w.heap.size w wr) (fun _ _ v18 _ => s.size - (intOf v18).toNat)
  case atStart =>
    refine ⟨0, i, 1, rfl, rfl, rfl, Nat.zero_le _, H.out, i0, i1, by omega, by omega, ?_, ?_, ?_, ?_⟩
    · simp
    · simp
    · simp
    · exact ((Below.refl _ _).alloc (Nat.le_refl _) _).alloc (by simp) _
  case round =>
    obtain ⟨n, i, wt, rfl, rfl, rfl, hn, HA, hi0, hi1, hw0, hw1, hk, hkf, hb, HB⟩ := hrel
    by_cases hlt : n < s.size
    · obtain ⟨c, hc0, hc1, hbt, hdrop⟩ := byte_at s n hlt
      have hd := dig_bd c
      rw [hdrop] at HA
      obtain ⟨d, is, hdig⟩ : ∃ d is, dig c = (d, is) := ⟨_, _, rfl⟩
      rw [hdig] at hd
      simp only at hd
      obtain ⟨hd0, hd1⟩ := hd
      have hm0 : 0 ≤ d * wt := Int.mul_nonneg hd0 (by omega)
      have hm1 : d * wt ≤ 35 * 2147483647 := Int.le_trans (Int.mul_le_mul_of_nonneg_right hd1 (by omega)) (by omega)
      have ht := thr_bd (36 * (n : Int) + 36) bias
      obtain ⟨t, htd⟩ : ∃ t, thr (36 * (n : Int) + 36) bias = t := ⟨_, rfl⟩
      rw [htd] at ht
      obtain ⟨ht0, ht1⟩ := ht
      have hp0 : 0 ≤ wt * (36 - t) := Int.mul_nonneg (by omega) (by omega)
      have hp1 : wt * (36 - t) ≤ 2147483647 * 35 := Int.mul_le_mul hw1 (by omega) (by omega) (by omega)
      have HT := Lib.hid htd
      have HD := Lib.hid hdig
      have HA' : (if is = false then (0, 0) else
    if 2147483647 < i + d * wt then (0, 0) else
    if d < t then (i + d * wt, (n : Int) + 1) else
    if 2147483647 < wt * (36 - t) then (0, 0) else
    num ((bytesOf s).drop (n + 1)) (n + 1) (i + d * wt) (wt * (36 - t)) bias) = r := by
        have := HA.out
        simp only [num, hdig, htd] at this
        exact this
      have hdc : dig c = (d, is) := hdig
      clear HA hdig htd hdrop
      cases is with
      | false =>
        obtain rfl : (0, 0) = r := HA'
        go_wp2_with (first | (go_at_call 38; refine (digit_calls _ _ hc0 hc1).mono ?_; rintro e w' ⟨rfl, rfl⟩))
        go_ret2
        exact ⟨rfl, HB⟩
      | true =>
        rw [if_neg (by simp)] at HA'
        by_cases h1 : 2147483647 < i + d * wt
        · rw [if_pos h1] at HA'
          obtain rfl : (0, 0) = r := HA'
          go_wp2_with (first | (go_at_call 38; refine (digit_calls _ _ hc0 hc1).mono ?_; rintro e w' ⟨rfl, rfl⟩))
          go_ret2
          exact ⟨rfl, HB⟩
        rw [if_neg h1] at HA'
        by_cases h2 : d < t
        · rw [if_pos h2] at HA'
          obtain rfl := HA'
          have h3 := HT.out
          go_wp2_with (first | (go_at_call 38; refine (digit_calls _ _ hc0 hc1).mono ?_; rintro e w' ⟨rfl, rfl⟩) | (go_at_call 53; refine (thresholds1_calls _ _ _ _ _ hk hkf hb (by omega) b0 b1 (by omega) (by omega)).mono ?_; rintro e w' ⟨rfl, rfl⟩))
          go_ret2
          exact ⟨rfl, HB.setCell (by simp) _⟩
        rw [if_neg h2] at HA'
        by_cases h4 : 2147483647 < wt * (36 - t)
        · rw [if_pos h4] at HA'
          obtain rfl : (0, 0) = r := HA'
          have h3 := HT.out
          go_wp2_with (first | (go_at_call 38; refine (digit_calls _ _ hc0 hc1).mono ?_; rintro e w' ⟨rfl, rfl⟩) | (go_at_call 53; refine (thresholds1_calls _ _ _ _ _ hk hkf hb (by omega) b0 b1 (by omega) (by omega)).mono ?_; rintro e w' ⟨rfl, rfl⟩))
          go_ret2
          exact ⟨rfl, HB.setCell (by simp) _⟩
        rw [if_neg h4] at HA'
        have h3 := HT.out
        have hp2 : 1 ≤ wt * (36 - t) := Int.mul_pos (by omega) (by omega)
        have HX := Lib.hid HA'
        clear HA'
        go_wp2_with (first | (go_at_call 38; refine (digit_calls _ _ hc0 hc1).mono ?_; rintro e w' ⟨rfl, rfl⟩) | (go_at_call 53; refine (thresholds1_calls _ _ _ _ _ hk hkf hb (by omega) b0 b1 (by omega) (by omega)).mono ?_; rintro e w' ⟨rfl, rfl⟩))
        clear h3
        go_roundw
        case rel => exact ⟨n + 1, i + d * wt, wt * (36 - t), by go_num, rfl, rfl, by omega, HX.out, by omega, by omega, hp2, by omega, (World.cell?_setCell_same' _ _ _ (by rw [hk]; rfl)).trans (by rw [show 36 * ((n + 1 : Nat) : Int) = 36 * (n : Int) + 36 from by omega]), by rw [World.frozen?_setCell]; exact hkf, (World.cell?_setCell_other _ _ _ _ (by simp)).trans hb, HB.setCell (by simp) _⟩
        case measure => simp [intOf]; omega
    · go_wp2
      go_ret2
      have : num ((bytesOf s).drop n) n i wt bias = (0, 0) := by rw [List.drop_eq_nil_of_le (by rw [bytesOf_length]; omega)]; rfl
      rw [HA.out] at this
      subst this
      exact ⟨rfl, HB⟩
end Go.Proofs.Ytmhlagakimckjaa.Q

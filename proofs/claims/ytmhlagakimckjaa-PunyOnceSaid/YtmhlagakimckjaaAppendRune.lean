import Derived.Test.YtmhlagakimckjaaMem
import Derived.Shelf.Strings.BuilderK
import Derived.Lib.RuneBytes
import Derived.Maps.AppendAt
import Derived.Lib.Small
import Derived.Test.YtmhlagakimckjaaShelf
namespace Go.Proofs.Ytmhlagakimckjaa.Q
open Go.RowKit Go.Proofs.YtmhlagakimckjaaW.PrintWords Go.Proofs.YtmhlagakimckjaaW.PrintLast Go.Proofs.YtmhlagakimckjaaW.PrintMore
set_option linter.unusedVariables false
set_option linter.unusedSimpArgs false

def utf8_AppendRune.f (l0 : List Int) (a1 : Int) : Option (List Int) :=
  if -2147483648 ≤ a1 ∧ a1 ≤ 2147483647 ∧ l0.length ≤ 70368744177664 then some (l0 ++ Go.Lib.encodeRuneZ a1) else none

def NonASCIIPost (B : Nat) (v : Value) (xs ys : List Int) (w : World) (e : Ending) (w' : World) : Prop :=
  ∃ v', e = .returned v' ∧ w'.ownsRow B 5 1 v' (xs.length + ys.length) (nums .u8 xs ++ nums .u8 ys) ∧ w.grownBy w' v.ownBlock ∧ (v'.ownBlock = v.ownBlock ∨ ∃ b, v'.ownBlock = some b ∧ w.heap.size ≤ b)
theorem nonascii_post {B : Nat} {v v' : Value} {xs ys : List Int} {w w2 : World} {o : Obj} (hown' : w2.ownsRow B 5 1 v' (xs.length + ys.length) (nums .u8 xs ++ nums .u8 ys)) (hg : (w.alloc o).grownBy w2 v.ownBlock)
    (hat : v'.ownBlock = v.ownBlock ∨ v'.ownBlock = some (w.heap.size + 1)) : NonASCIIPost B v xs ys w (.returned v') w2 :=
  ⟨v', rfl, hown', grown_alloc hg, hat.imp id (fun h => ⟨_, h, by simp⟩)⟩

set_option maxHeartbeats 4000000 in
set_option maxRecDepth 100000 in
theorem appendNonASCII_two (B : Nat) (v : Value) (xs : List Int) (r : Int) (h0 : 128 ≤ r) (h1 : r ≤ 2047) (w : World) (hown : w.ownsRow B 5 1 v xs.length (nums .u8 xs)) (hlen : xs.length + 4 ≤ 140737488355328) (hBw : B ≤ w.heap.size) :
    Calls Try.prog 41 #[v, .int .i32 r] w (NonASCIIPost B v xs [192 + r / 64, 128 + r % 64] w) := by
  obtain ⟨i0, hi, hz0, hz1, hz2⟩ := info_parts info5
  go_enter Try.func41, Try.ntmps41
  go_wp2_with (at_builtin; refine wpList_append_own_at _ rfl _ _ 34 rfl B 5 i0 (.int .u8 0) 1 1 Try.underlying34 hi hz0 hz1 hz2 rfl (by decide) _ _ _ rfl (hown.alloc _) ⟨w.heap.size, 0, none⟩ 2 2 (nums .u8 [192 + r / 64, 128 + r % 64]) rfl rfl (nums_at .u8 [192 + r / 64, 128 + r % 64] 5 w) (nums_one _ _) ?c3 ?c4 ?c5 ?_)
  case c3 => unfold maxLen; omega
  case c4 => omega
  case c5 => first | omega | (simp; omega)
  intro v' w2 hown' hgrow _ hat
  go_wp2
  go_ret
  exact nonascii_post hown' hgrow hat

set_option maxHeartbeats 4000000 in
set_option maxRecDepth 100000 in
theorem appendNonASCII_lo (B : Nat) (v : Value) (xs : List Int) (r : Int) (h0 : 2048 ≤ r) (h1 : r < 55296) (w : World) (hown : w.ownsRow B 5 1 v xs.length (nums .u8 xs)) (hlen : xs.length + 4 ≤ 140737488355328) (hBw : B ≤ w.heap.size) :
    Calls Try.prog 41 #[v, .int .i32 r] w (NonASCIIPost B v xs [224 + r / 4096, 128 + r / 64 % 64, 128 + r % 64] w) := by
  obtain ⟨i0, hi, hz0, hz1, hz2⟩ := info_parts info5
  go_enter Try.func41, Try.ntmps41
  go_wp2_with (at_builtin; refine wpList_append_own_at _ rfl _ _ 34 rfl B 5 i0 (.int .u8 0) 1 1 Try.underlying34 hi hz0 hz1 hz2 rfl (by decide) _ _ _ rfl (hown.alloc _) ⟨w.heap.size, 0, none⟩ 3 3 (nums .u8 [224 + r / 4096, 128 + r / 64 % 64, 128 + r % 64]) rfl rfl (nums_at .u8 [224 + r / 4096, 128 + r / 64 % 64, 128 + r % 64] 5 w) (nums_one _ _) ?c3 ?c4 ?c5 ?_)
  case c3 => unfold maxLen; omega
  case c4 => omega
  case c5 => first | omega | (simp; omega)
  intro v' w2 hown' hgrow _ hat
  go_wp2
  go_ret
  exact nonascii_post hown' hgrow hat

set_option maxHeartbeats 4000000 in
set_option maxRecDepth 100000 in
theorem appendNonASCII_hi (B : Nat) (v : Value) (xs : List Int) (r : Int) (h0 : 57343 < r) (h1 : r ≤ 65535) (w : World) (hown : w.ownsRow B 5 1 v xs.length (nums .u8 xs)) (hlen : xs.length + 4 ≤ 140737488355328) (hBw : B ≤ w.heap.size) :
    Calls Try.prog 41 #[v, .int .i32 r] w (NonASCIIPost B v xs [224 + r / 4096, 128 + r / 64 % 64, 128 + r % 64] w) := by
  obtain ⟨i0, hi, hz0, hz1, hz2⟩ := info_parts info5
  go_enter Try.func41, Try.ntmps41
  go_wp2_with (at_builtin; refine wpList_append_own_at _ rfl _ _ 34 rfl B 5 i0 (.int .u8 0) 1 1 Try.underlying34 hi hz0 hz1 hz2 rfl (by decide) _ _ _ rfl (hown.alloc _) ⟨w.heap.size, 0, none⟩ 3 3 (nums .u8 [224 + r / 4096, 128 + r / 64 % 64, 128 + r % 64]) rfl rfl (nums_at .u8 [224 + r / 4096, 128 + r / 64 % 64, 128 + r % 64] 5 w) (nums_one _ _) ?c3 ?c4 ?c5 ?_)
  case c3 => unfold maxLen; omega
  case c4 => omega
  case c5 => first | omega | (simp; omega)
  intro v' w2 hown' hgrow _ hat
  go_wp2
  go_ret
  exact nonascii_post hown' hgrow hat

set_option maxHeartbeats 4000000 in
set_option maxRecDepth 100000 in
theorem appendNonASCII_four (B : Nat) (v : Value) (xs : List Int) (r : Int) (h0 : 65536 ≤ r) (h1 : r ≤ 1114111) (w : World) (hown : w.ownsRow B 5 1 v xs.length (nums .u8 xs)) (hlen : xs.length + 4 ≤ 140737488355328) (hBw : B ≤ w.heap.size) :
    Calls Try.prog 41 #[v, .int .i32 r] w (NonASCIIPost B v xs [240 + r / 262144, 128 + r / 4096 % 64, 128 + r / 64 % 64, 128 + r % 64] w) := by
  obtain ⟨i0, hi, hz0, hz1, hz2⟩ := info_parts info5
  go_enter Try.func41, Try.ntmps41
  go_wp2_with (at_builtin; refine wpList_append_own_at _ rfl _ _ 34 rfl B 5 i0 (.int .u8 0) 1 1 Try.underlying34 hi hz0 hz1 hz2 rfl (by decide) _ _ _ rfl (hown.alloc _) ⟨w.heap.size, 0, none⟩ 4 4 (nums .u8 [240 + r / 262144, 128 + r / 4096 % 64, 128 + r / 64 % 64, 128 + r % 64]) rfl rfl (nums_at .u8 [240 + r / 262144, 128 + r / 4096 % 64, 128 + r / 64 % 64, 128 + r % 64] 5 w) (nums_one _ _) ?c3 ?c4 ?c5 ?_)
  case c3 => unfold maxLen; omega
  case c4 => omega
  case c5 => first | omega | (simp; omega)
  intro v' w2 hown' hgrow _ hat
  go_wp2
  go_ret
  exact nonascii_post hown' hgrow hat

set_option maxHeartbeats 4000000 in
set_option maxRecDepth 100000 in
theorem appendNonASCII_sur (B : Nat) (v : Value) (xs : List Int) (r : Int) (h0 : 55296 ≤ r) (h1 : r ≤ 57343) (w : World) (hown : w.ownsRow B 5 1 v xs.length (nums .u8 xs)) (hlen : xs.length + 4 ≤ 140737488355328) (hBw : B ≤ w.heap.size) :
    Calls Try.prog 41 #[v, .int .i32 r] w (NonASCIIPost B v xs [239, 191, 189] w) := by
  obtain ⟨i0, hi, hz0, hz1, hz2⟩ := info_parts info5
  go_enter Try.func41, Try.ntmps41
  go_wp2_with (at_builtin; refine wpList_append_own_at _ rfl _ _ 34 rfl B 5 i0 (.int .u8 0) 1 1 Try.underlying34 hi hz0 hz1 hz2 rfl (by decide) _ _ _ rfl (hown.alloc _) ⟨w.heap.size, 0, none⟩ 3 3 (nums .u8 [239, 191, 189]) rfl rfl (nums_at .u8 [239, 191, 189] 5 w) (nums_one _ _) ?c3 ?c4 ?c5 ?_)
  case c3 => unfold maxLen; omega
  case c4 => omega
  case c5 => first | omega | (simp; omega)
  intro v' w2 hown' hgrow _ hat
  go_wp2
  go_ret
  exact nonascii_post hown' hgrow hat

set_option maxHeartbeats 4000000 in
set_option maxRecDepth 100000 in
theorem appendNonASCII_big (B : Nat) (v : Value) (xs : List Int) (r : Int) (h0 : 1114112 ≤ r) (h1 : r ≤ 2147483647) (w : World) (hown : w.ownsRow B 5 1 v xs.length (nums .u8 xs)) (hlen : xs.length + 4 ≤ 140737488355328) (hBw : B ≤ w.heap.size) :
    Calls Try.prog 41 #[v, .int .i32 r] w (NonASCIIPost B v xs [239, 191, 189] w) := by
  obtain ⟨i0, hi, hz0, hz1, hz2⟩ := info_parts info5
  go_enter Try.func41, Try.ntmps41
  go_wp2_with (at_builtin; refine wpList_append_own_at _ rfl _ _ 34 rfl B 5 i0 (.int .u8 0) 1 1 Try.underlying34 hi hz0 hz1 hz2 rfl (by decide) _ _ _ rfl (hown.alloc _) ⟨w.heap.size, 0, none⟩ 3 3 (nums .u8 [239, 191, 189]) rfl rfl (nums_at .u8 [239, 191, 189] 5 w) (nums_one _ _) ?c3 ?c4 ?c5 ?_)
  case c3 => unfold maxLen; omega
  case c4 => omega
  case c5 => first | omega | (simp; omega)
  intro v' w2 hown' hgrow _ hat
  go_wp2
  go_ret
  exact nonascii_post hown' hgrow hat

set_option maxHeartbeats 4000000 in
set_option maxRecDepth 100000 in
theorem appendNonASCII_neg (B : Nat) (v : Value) (xs : List Int) (r : Int) (h0 : -2147483648 ≤ r) (h1 : r < 0) (w : World) (hown : w.ownsRow B 5 1 v xs.length (nums .u8 xs)) (hlen : xs.length + 4 ≤ 140737488355328) (hBw : B ≤ w.heap.size) :
    Calls Try.prog 41 #[v, .int .i32 r] w (NonASCIIPost B v xs [239, 191, 189] w) := by
  obtain ⟨i0, hi, hz0, hz1, hz2⟩ := info_parts info5
  go_enter Try.func41, Try.ntmps41
  go_wp2_with (at_builtin; refine wpList_append_own_at _ rfl _ _ 34 rfl B 5 i0 (.int .u8 0) 1 1 Try.underlying34 hi hz0 hz1 hz2 rfl (by decide) _ _ _ rfl (hown.alloc _) ⟨w.heap.size, 0, none⟩ 3 3 (nums .u8 [239, 191, 189]) rfl rfl (nums_at .u8 [239, 191, 189] 5 w) (nums_one _ _) ?c3 ?c4 ?c5 ?_)
  case c3 => unfold maxLen; omega
  case c4 => omega
  case c5 => first | omega | (simp; omega)
  intro v' w2 hown' hgrow _ hat
  go_wp2
  go_ret
  exact nonascii_post hown' hgrow hat
theorem appendNonASCII (B : Nat) (v : Value) (xs : List Int) (r : Int) (h0 : -2147483648 ≤ r) (h1 : r ≤ 2147483647) (hna : r < 0 ∨ 128 ≤ r) (w : World) (hown : w.ownsRow B 5 1 v xs.length (nums .u8 xs)) (hlen : xs.length + 4 ≤ 140737488355328) (hBw : B ≤ w.heap.size) :
    Calls Try.prog 41 #[v, .int .i32 r] w (NonASCIIPost B v xs (Go.Lib.encodeRuneZ r) w) := by
  by_cases c1 : r < 0
  · rw [show Go.Lib.encodeRuneZ r = [239, 191, 189] from by unfold Go.Lib.encodeRuneZ; repeat (rw [if_neg (by omega)])]
    exact appendNonASCII_neg B v xs r h0 c1 w hown hlen hBw
  by_cases c2 : r ≤ 2047
  · rw [Go.Lib.encodeRuneZ_two (by omega) c2]
    exact appendNonASCII_two B v xs r (by omega) c2 w hown hlen hBw
  by_cases c3 : r < 55296
  · rw [Go.Lib.encodeRuneZ_three (.inl ⟨by omega, c3⟩)]
    exact appendNonASCII_lo B v xs r (by omega) c3 w hown hlen hBw
  by_cases c4 : r ≤ 57343
  · rw [show Go.Lib.encodeRuneZ r = [239, 191, 189] from by unfold Go.Lib.encodeRuneZ; repeat (rw [if_neg (by omega)])]
    exact appendNonASCII_sur B v xs r (by omega) c4 w hown hlen hBw
  by_cases c5 : r ≤ 65535
  · rw [Go.Lib.encodeRuneZ_three (.inr ⟨by omega, c5⟩)]
    exact appendNonASCII_hi B v xs r (by omega) c5 w hown hlen hBw
  by_cases c6 : r ≤ 1114111
  · rw [Go.Lib.encodeRuneZ_four (by omega) c6]
    exact appendNonASCII_four B v xs r (by omega) c6 w hown hlen hBw
  · rw [show Go.Lib.encodeRuneZ r = [239, 191, 189] from by unfold Go.Lib.encodeRuneZ; repeat (rw [if_neg (by omega)])]
    exact appendNonASCII_big B v xs r (by omega) h1 w hown hlen hBw

theorem appendRune_any (B : Nat) (v : Value) (xs : List Int) (r : Int) (h0 : -2147483648 ≤ r) (h1 : r ≤ 2147483647) (w : World) (hown : w.ownsRow B 5 1 v xs.length (nums .u8 xs)) (hlen : xs.length + 4 ≤ 140737488355328) (hBw : B ≤ w.heap.size) :
    Calls Try.prog 31 #[v, .int .i32 r] w (NonASCIIPost B v xs (Go.Lib.encodeRuneZ r) w) := by
  by_cases c : 0 ≤ r ∧ r ≤ 127
  · obtain ⟨c1, c2⟩ := c
    rw [Go.Lib.encodeRuneZ_one c1 c2]
    obtain ⟨i0, hi, hz0, hz1, hz2⟩ := info_parts info5
    go_enter Try.func31, Try.ntmps31
    go_wp2_with (at_builtin; refine wpList_append_own_at _ rfl _ _ 34 rfl B 5 i0 (.int .u8 0) 1 1 Try.underlying34 hi hz0 hz1 hz2 rfl (by decide) _ _ _ rfl (hown.alloc _) ⟨w.heap.size, 0, none⟩ 1 1 (nums .u8 [r]) rfl rfl (nums_at .u8 [r] 5 w) (nums_one _ _) ?c3 ?c4 ?c5 ?_)
    case c3 => unfold maxLen; omega
    case c4 => omega
    case c5 => first | omega | (simp; omega)
    intro v' w2 hown' hgrow _ hat
    go_wp2
    go_ret
    exact nonascii_post hown' hgrow hat
  · have hna : r < 0 ∨ 128 ≤ r := by omega
    have hna' : ¬ (r % 4294967296 ≤ 127) := by omega
    clear c
    go_enter Try.func31, Try.ntmps31
    go_wp2_with (go_at_call 41; refine (appendNonASCII B v xs r h0 h1 hna w hown hlen hBw).mono ?_; rintro e w1 ⟨v1, rfl, ho1, hg1, hat1⟩)
    go_ret
    exact ⟨v1, rfl, ho1, hg1, hat1⟩

theorem utf8_AppendRune.calls (P0_ : Nat → Prop) (u9000_ : Value) (l0 : List Int) (a1 : Int) (r : List Int) (w0 w : World) (hB : Below w0.heap.size w0 w) (ho0 : Kd.R (Kd.int .u8) 5 w w0.heap.size P0_ u9000_ l0) (h : utf8_AppendRune.f l0 a1 = some r) :
    Calls Try.prog 31 #[u9000_, .int .i32 a1] w fun e w' => ∃ v0_ : Value, e = .returned (v0_) ∧ Kd.R (Kd.int .u8) 5 w' w0.heap.size (fun k_ => (P0_ k_ ∨ w.heap.size ≤ k_)) v0_ r ∧ Below w0.heap.size w0 w' ∧ Kept w w' (fun k_ => P0_ k_) := by
  unfold utf8_AppendRune.f at h
  by_cases c : -2147483648 ≤ a1 ∧ a1 ≤ 2147483647 ∧ l0.length ≤ 70368744177664
  · rw [if_pos c] at h
    obtain rfl := Option.some.inj h
    obtain ⟨c1, c2, c3⟩ := c
    refine (appendRune_any w0.heap.size u9000_ l0 a1 c1 c2 w (Kd.own_of_R ho0) (by omega) hB.size).mono ?_
    rintro e w' ⟨v', rfl, ho, hg, hat⟩
    refine ⟨v', rfl, own_post hB ho0 hg hat (n := l0.length + (Go.Lib.encodeRuneZ a1).length) ?_ (by rw [List.length_append])⟩
    rw [nums_append]; exact ho
  · rw [if_neg c] at h
    exact absurd h (by simp)

def utf8_ValidRune.f (a0 : Int) : Option Bool := some (Go.Lib.validRune a0)
theorem utf8_ValidRune.calls (a0 : Int) (r : Bool) (w : World) (h : utf8_ValidRune.f a0 = some r) :
    Calls Try.prog 30 #[.int .i32 a0] w fun e w' => e = .returned (.bool r) ∧ Drawn0 w w' := by
  obtain rfl := Option.some.inj h
  refine (Try.utf8_ValidRune a0 w).mono ?_
  rintro e w' ⟨rfl, rfl⟩
  exact ⟨rfl, Drawn0.refl _⟩
end Go.Proofs.Ytmhlagakimckjaa.Q

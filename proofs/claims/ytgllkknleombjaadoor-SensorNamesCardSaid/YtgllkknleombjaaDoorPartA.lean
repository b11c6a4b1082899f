/- The curve, as it stands; Micro, Milli, Degrees at the inputs that the laws ask; awake. -/
import Derived.Test.YtgllkknleombjaaDoorSensA
import Derived.RegionTactic
namespace Go.Proofs.YtgllkknleombjaaDoor
open Go.RowKit Go.Sort

def curve : List Int := [625000, 2122500, 3145000, 4167500, 5190000, 6212500, 7235000, 8257500, 9280000, 10302500, 11325000, 12347500, 13370000, 14392500, 15415000, 16937500]

/-- The curve lies in block 0. -/
def Tab (w : World) : Prop := ∀ i, i < 16 → w.cell? ⟨0, i, none⟩ = some (.int .i64 (curve.getD i 0))

theorem Tab.below {w w' : World} {B : Nat} (h : Tab w) (hb : Below B w w') (hB : 0 < B) : Tab w' := fun i hi => (hb.cell (p := ⟨0, i, none⟩) hB).trans (h i hi)
theorem Tab.drewN {w : World} (h : Tab w) (q : Nat) : Tab (w.drewN q) := h

theorem curve_hi {k : Nat} (h0 : 0 < k) (h : k < 16) : 1373750 < curve.getD k 0 := by
  have key : ∀ k : Fin 16, 0 < k.val → 1373750 < curve.getD k.val 0 := by decide
  exact key ⟨k, h⟩ h0

set_option maxHeartbeats 400000 in
theorem micro_zero (w : World) (ht : Tab w) : Calls Tryd.prog 8 #[.int .i64 0] w fun e w' => e = .returned (.tuple #[.int .i64 625000, .int .i64 0]) ∧ w' = w := by
  have h0 : w.cell? ⟨0, 0, none⟩ = some (.int .i64 625000) := ht 0 (by omega)
  have H := Lib.hid ht
  clear ht
  go_enter Tryd.func8, Tryd.ntmps8
  go_wp2
  go_ret2
  exact ⟨rfl, rfl⟩

set_option maxHeartbeats 400000 in
theorem micro_out (x : Int) (hx : x < 0 ∨ 16 ≤ x) (w : World) : Calls Tryd.prog 8 #[.int .i64 x] w fun e w' => e = .returned (.tuple #[.int .i64 0, .int .i64 1]) ∧ w' = w := by
  rcases hx with hx | hx
  · have hb : decide (x < 0) = true := decide_eq_true hx
    go_enter Tryd.func8, Tryd.ntmps8
    go_wp2
    go_ret2
    exact ⟨rfl, rfl⟩
  · have hb : decide (x < 0) = false := decide_eq_false (by omega)
    have hb2 : decide (16 ≤ x) = true := decide_eq_true hx
    go_enter Tryd.func8, Tryd.ntmps8
    go_wp2
    go_ret2
    exact ⟨rfl, rfl⟩

set_option maxHeartbeats 1000000 in
theorem milli_at (w : World) (ht : Tab w) : Calls Tryd.prog 10 #[.int .i64 1373750] w fun e w' => e = .returned (.tuple #[.int .i32 (-35000), .bool true]) ∧ ∃ q, w' = w.drewN q := by
  have h0 : w.cell? ⟨0, 0, none⟩ = some (.int .i64 625000) := ht 0 (by omega)
  have h1 : w.cell? ⟨0, 1, none⟩ = some (.int .i64 2122500) := ht 1 (by omega)
  have h15 : w.cell? ⟨0, 15, none⟩ = some (.int .i64 16937500) := ht 15 (by omega)
  have H := Lib.hid ht
  clear ht
  go_enter Tryd.func10, Tryd.ntmps10
  go_wp2
  go_loop [4] (fun a => ∃ k : Nat, k < 16 ∧ a = .int .i64 k) (fun a => (intOf a).toNat)
  case atStart => exact ⟨15, by omega, rfl⟩
  case round =>
    obtain ⟨k, hk, rfl⟩ := hrel
    by_cases hz : 0 < k
    · have hc := H.out k hk
      have hh := curve_hi hz hk
      obtain ⟨x, hx⟩ : ∃ x, x = curve.getD k 0 := ⟨_, rfl⟩
      rw [← hx] at hc hh
      clear hx
      go_wp2
      go_round
      case rel => exact ⟨k - 1, by omega, by congr 1; omega⟩
      case measure => simp [intOf]; omega
    · obtain rfl : k = 0 := by omega
      go_wp2
      go_quiet (fail)
      go_wp2
      go_ret2
      exact ⟨rfl, _, rfl⟩

set_option maxHeartbeats 400000 in
theorem milli_high (x : Int) (hx : 16937500 < x) (w : World) (ht : Tab w) : Calls Tryd.prog 10 #[.int .i64 x] w fun e w' => e = .returned (.tuple #[.int .i32 110000, .bool false]) ∧ w' = w := by
  have h0 : w.cell? ⟨0, 0, none⟩ = some (.int .i64 625000) := ht 0 (by omega)
  have h15 : w.cell? ⟨0, 15, none⟩ = some (.int .i64 16937500) := ht 15 (by omega)
  have H := Lib.hid ht
  have hb : decide (x < 625000) = false := decide_eq_false (by omega)
  have hb2 : decide (16937500 < x) = true := decide_eq_true (by omega)
  clear ht
  go_enter Tryd.func10, Tryd.ntmps10
  go_wp2
  go_ret2
  exact ⟨rfl, rfl⟩

set_option maxHeartbeats 400000 in
theorem milli_low (x : Int) (hx : x < 625000) (w : World) (ht : Tab w) : Calls Tryd.prog 10 #[.int .i64 x] w fun e w' => e = .returned (.tuple #[.int .i32 (-40000), .bool false]) ∧ w' = w := by
  have h0 : w.cell? ⟨0, 0, none⟩ = some (.int .i64 625000) := ht 0 (by omega)
  have H := Lib.hid ht
  have hb : decide (x < 625000) = true := decide_eq_true (by omega)
  clear ht
  go_enter Tryd.func10, Tryd.ntmps10
  go_wp2
  go_ret2
  exact ⟨rfl, rfl⟩

set_option maxHeartbeats 400000 in
theorem below_a (w : World) : Calls Tryd.prog 13 #[.int .i64 110500, .int .i64 1000] w fun e w' => e = .returned (.int .i64 110) ∧ w' = w := by
  go_enter Tryd.func13, Tryd.ntmps13
  go_wp2
  go_ret
  exact ⟨rfl, rfl⟩
set_option maxHeartbeats 400000 in
theorem below_b (w : World) : Calls Tryd.prog 13 #[.int .i64 (-39500), .int .i64 1000] w fun e w' => e = .returned (.int .i64 (-40)) ∧ w' = w := by
  go_enter Tryd.func13, Tryd.ntmps13
  go_wp2
  go_ret
  exact ⟨rfl, rfl⟩

set_option maxHeartbeats 400000 in
theorem degrees_high (x : Int) (hx : 16937500 < x) (w : World) (ht : Tab w) : Calls Tryd.prog 9 #[.int .i64 x] w fun e w' => e = .returned (.tuple #[.int .i8 110, .bool false]) ∧ w' = w := by
  have H := Lib.hid ht
  clear ht
  go_enter Tryd.func9, Tryd.ntmps9
  go_wp2_with (first
    | (go_at_call 10; refine (milli_high x hx w H.out).mono ?_; rintro e w' ⟨rfl, rfl⟩)
    | (go_at_call 13; refine (below_a _).mono ?_; rintro e w' ⟨rfl, rfl⟩))
  go_ret2
  exact ⟨rfl, rfl⟩
set_option maxHeartbeats 400000 in
theorem degrees_low (x : Int) (hx : x < 625000) (w : World) (ht : Tab w) : Calls Tryd.prog 9 #[.int .i64 x] w fun e w' => e = .returned (.tuple #[.int .i8 (-40), .bool false]) ∧ w' = w := by
  have H := Lib.hid ht
  clear ht
  go_enter Tryd.func9, Tryd.ntmps9
  go_wp2_with (first
    | (go_at_call 10; refine (milli_low x hx w H.out).mono ?_; rintro e w' ⟨rfl, rfl⟩)
    | (go_at_call 13; refine (below_b _).mono ?_; rintro e w' ⟨rfl, rfl⟩))
  go_ret2
  exact ⟨rfl, rfl⟩

set_option maxHeartbeats 400000 in
theorem awake_true (w : World) (ht : Tab w) : Calls Tryd.prog 5 #[] w fun e w' => e = .returned (.bool true) ∧ ∃ q, w' = w.drewN q := by
  have H := Lib.hid ht
  clear ht
  go_enter Tryd.func5, Tryd.ntmps5
  go_wp2_with (first
    | (go_at_call 8; refine (micro_zero w H.out).mono ?_; rintro e w' ⟨rfl, rfl⟩)
    | (go_at_call 10; refine (milli_at _ H.out).mono ?_; rintro e w' ⟨rfl, q, rfl⟩))
  go_ret
  exact ⟨rfl, _, rfl⟩
end Go.Proofs.YtgllkknleombjaaDoor

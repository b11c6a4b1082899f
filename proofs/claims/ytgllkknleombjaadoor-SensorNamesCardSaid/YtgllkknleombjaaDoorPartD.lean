/- The law SensorNames, walked. -/
import Derived.Test.YtgllkknleombjaaDoorPartC
import Derived.Laws.MakeOwn
namespace Go.Proofs.YtgllkknleombjaaDoor
open Go.RowKit Go.Sort

/-- n noughts. -/
def nought (n : Nat) : List Int := List.replicate n 0
theorem nought_getD (n j : Nat) : (nought n).getD j 0 = 0 := by
  unfold nought
  rw [List.getD_eq_getElem?_getD]
  by_cases hj : j < n
  · simp [hj]
  · rw [List.getElem?_eq_none (by simp; omega)]; rfl
theorem nought_len (n : Nat) : (nought n).length = n := by simp [nought]
theorem nought_med (n : Nat) : medV (nought n) = 0 := by
  unfold medV
  split
  · rw [List.getD_eq_getElem?_getD]
    cases h : (up (nought n))[((nought n).length - 1) / 2]? with
    | none => rfl
    | some x =>
      have := (up_perm (nought n)).mem_iff.1 (List.mem_of_getElem? h)
      exact (List.mem_replicate.1 this).2
  · rfl

theorem make8 (n : Nat) (hn : n ≤ 1048576) : ∃ C : Array Value, (∀ j, j < n → C[j]? = some (.int .i8 0)) ∧ ∀ u : World, (Instr.makeSlice 22 (.int .i64 (n : Int)) (.int .i64 (n : Int))).run Tryd.prog u = .ok (.slice (some ⟨u.heap.size, 0, none⟩) n n) (u.alloc (.cells C 23)) := by
  obtain ⟨i0, hi, hz0, hz1, hz2⟩ := info_parts info23
  have h : ∀ u : World, (Instr.makeSlice 22 (.int .i64 (n : Int)) (.int .i64 (n : Int))).run Tryd.prog u = .ok (.slice (some ⟨u.heap.size, 0, none⟩) n n) (u.alloc (.cells (madeCells #[.int .i8 0] n) 23)) := fun u => by
    have h := run_make (P := Tryd.prog) u 22 23 i0 (.int .i8 0) under22 hi hz0 .i64 .i64 n n (by omega) (Int.le_refl _) (by rw [hz2]; omega) (by omega)
    simp only [Int.toNat_natCast] at h
    simpa [hz1, Value.cells] using h
  refine ⟨_, fun j hj => ?_, h⟩
  rw [← Array.getElem?_toList, toList_madeCells_one]
  simp [hj]

theorem nought_holds (u : World) (n : Nat) (C : Array Value) (hC : ∀ j, j < n → C[j]? = some (.int .i8 0)) : Holds8 (u.alloc (.cells C 23)) (u.alloc (.cells C 23)).heap.size (some ⟨u.heap.size, 0, none⟩) (nought n) := fun h => by
  refine ⟨_, rfl, by simp, fun j hj => ?_⟩
  rw [nought_len] at hj
  rw [nought_getD, show (⟨u.heap.size, 0, none⟩ : Addr).add j = ⟨u.heap.size, j, none⟩ by unfold Addr.add; split <;> simp_all]
  rw [cell_of_row _ u.heap.size j C 23 (0, 0) (heap_alloc_new u _)]
  exact hC j hj

theorem median_nought (u : World) (n : Nat) (hn : n ≤ 1048576) (C : Array Value) (hC : ∀ j, j < n → C[j]? = some (.int .i8 0)) (E : Int) (hE : medE (nought n) = E) :
    Calls Tryd.prog 7 #[.slice (some ⟨u.heap.size, 0, none⟩) n n] (u.alloc (.cells C 23)) fun e w' => e = .returned (.tuple #[.int .i8 0, .int .i64 E]) ∧ Below u.heap.size u w' := by
  have := median_does (nought n) (some ⟨u.heap.size, 0, none⟩) n (by rw [nought_len]; omega) (u.alloc (.cells C 23)) (nought_holds u n C hC)
  rw [nought_len] at this
  refine this.mono fun e w' ⟨he, hb⟩ => ?_
  unfold Medians at he
  rw [nought_med, hE] at he
  exact ⟨he, ((Below.refl _ u).alloc (Nat.le_refl _) _).trans (hb.mono (by simp))⟩

theorem zone_five (u : World) : Calls Tryd.prog 6 #[.slice (some ⟨u.heap.size, 0, none⟩) 2 2, .int .i8 0] (u.alloc (.cells #[.int .i8 5, .int .i8 5] 23)) fun e w' => e = .returned (.tuple #[.int .i64 0, .int .i64 1]) ∧ ∃ q, w' = (u.alloc (.cells #[.int .i8 5, .int .i8 5] 23)).drewN q := by
  have h8 : Holds8 (u.alloc (.cells #[.int .i8 5, .int .i8 5] 23)) (u.heap.size + 1) (some ⟨u.heap.size, 0, none⟩) [5, 5] := fun _ => by
    refine ⟨_, rfl, Nat.lt_succ_self _, fun j hj => ?_⟩
    rw [show (⟨u.heap.size, 0, none⟩ : Addr).add j = ⟨u.heap.size, j, none⟩ by unfold Addr.add; split <;> simp_all]
    rw [cell_of_row _ u.heap.size j _ 23 (0, 0) (heap_alloc_new u _)]
    match j, hj with
    | 0, _ => rfl
    | 1, _ => rfl
  have := zone_does [5, 5] 0 (some ⟨u.heap.size, 0, none⟩) (u.heap.size + 1) 2 (by decide) _ h8
  refine this.mono fun e w' ⟨he, hq⟩ => ⟨?_, hq⟩
  unfold Zoned at he
  have hno : ¬ (([5, 5] : List Int).length ≤ 64 ∧ climbs [5, 5] ([5, 5] : List Int).length) := fun ⟨_, h⟩ => by
    have := h 1 (by decide) (by decide)
    revert this; decide
  rw [(zone_no 0 hno).1, (zone_no 0 hno).2] at he
  exact he

theorem turned_round {P : Program} {f : FuncId} {args : Array Value} {w : World} {v : Ending} (h : Calls P f args w fun e w' => e = v ∧ w' = w) : Calls P f args w fun e w' => e = v ∧ w = w' := h.mono fun _ _ ⟨a, b⟩ => ⟨a, b.symm⟩

set_option maxRecDepth 100000 in
set_option maxHeartbeats 4000000 in
theorem names_true (w : World) (ht : Tab w) (h0w : 0 < w.heap.size) : Calls Tryd.prog 4 #[] w fun e w' => e = .returned (.bool true) ∧ Below w.heap.size w w' := by
  obtain ⟨C, hC, hmk⟩ := make8 4096 (by omega)
  obtain ⟨C', hC', hmk'⟩ := make8 4097 (by omega)
  have m1 := fun u => median_nought u 4096 (by omega) C hC 0 (by simp [medE, nought_len])
  have m2 := fun u => median_nought u 4097 (by omega) C' hC' 1 (by simp [medE, nought_len])
  have m0 := fun (u : World) => (median_does [] none 0 (by decide) u (fun h => absurd h (Nat.lt_irrefl _))).mono (R' := fun e w' => e = .returned (.tuple #[.int .i8 0, .int .i64 1]) ∧ Below u.heap.size u w') fun e w' ⟨he, hb⟩ => ⟨he, hb⟩
  simp only [List.length_nil] at m0
  have M0 := Lib.hid m0
  have M1 := Lib.hid m1
  have M2 := Lib.hid m2
  have Ht := Lib.hid ht
  clear m0 m1 m2 ht hC hC'
  simp only [Int.cast_ofNat_Int] at hmk hmk'
  go_enter Tryd.func4, Tryd.ntmps4
  have c8a := turned_round (micro_out (-1) (by omega) w)
  have c8b := turned_round (micro_out 16 (by omega) w)
  have C8a := Lib.hid c8a
  have C8b := Lib.hid c8b
  clear c8a c8b
  go_upto_region 2 with (go_at_call 8; refine C8a.out.mono ?_; rintro e w' ⟨rfl, rfl⟩)
  go_upto_region 3 with (go_at_call 8; refine C8b.out.mono ?_; rintro e w' ⟨rfl, rfl⟩)
  go_upto_region 4 with (go_at_call 6; go_loud (refine (zone_five w).mono ?_; rintro e w1 ⟨rfl, q1, rfl⟩))
  have hb1 : Below w.heap.size w ((w.alloc (.cells #[.int .i8 5, .int .i8 5] 23)).drewN q1) := by
    have := (Below.refl w.heap.size w).alloc (Nat.le_refl _) (.cells #[.int .i8 5, .int .i8 5] 23)
    exact ⟨this.os, this.tape, this.output, this.size, this.block⟩
  obtain ⟨w1, hw1⟩ : ∃ w1, w1 = (w.alloc (.cells #[.int .i8 5, .int .i8 5] 23)).drewN q1 := ⟨_, rfl⟩
  rw [← hw1] at hb1 ⊢
  clear hw1
  go_upto_region 5 with (go_at_call 7; refine (M0.out _).mono ?_; rintro e w2 ⟨rfl, hb2⟩)
  have hb2' := hb1.trans (hb2.mono hb1.size)
  clear hb2
  go_upto_region 6 with (go_at_call 7; refine (M1.out _).mono ?_; rintro e w3 ⟨rfl, hb3⟩)
  have hb3' := hb2'.trans (hb3.mono hb2'.size)
  clear hb3
  go_upto_region 7 with (go_at_call 7; refine (M2.out _).mono ?_; rintro e w4 ⟨rfl, hb4⟩)
  have hb4' := hb3'.trans (hb4.mono hb3'.size)
  clear hb4
  have Ht4 := Lib.hid (Ht.out.below hb4' h0w)
  obtain ⟨X, hX⟩ : ∃ X : Int, X = 9223372036854775807 := ⟨_, rfl⟩
  obtain ⟨Y, hY⟩ : ∃ Y : Int, Y = -9223372036854775808 := ⟨_, rfl⟩
  have cX := turned_round (degrees_high X (by omega) w4 Ht4.out)
  have cY := turned_round (degrees_low Y (by omega) w4 Ht4.out)
  rw [hX] at cX
  rw [hY] at cY
  have CX := Lib.hid cX
  have CY := Lib.hid cY
  clear cX cY hX hY
  go_upto_region 8 with (go_at_call 9; refine CX.out.mono ?_; rintro e w' ⟨rfl, rfl⟩)
  go_upto_region 9 with (go_at_call 9; refine CY.out.mono ?_; rintro e w' ⟨rfl, rfl⟩)
  go_wp2
  go_ret
  exact ⟨rfl, hb4'⟩
end Go.Proofs.YtgllkknleombjaaDoor

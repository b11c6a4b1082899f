/- The board's ready and ended. -/
import Derived.Test.YtoilhpmimcbniaaCrowF
import Derived.Deep.CutRange
namespace Go.Proofs.Ytoilhpmimcbniaa
open Go.RowKit

/-- Those below k of which p. -/
def those (p : Nat → Bool) (k : Nat) : List Int := ((List.range k).filter p).map fun (i : Nat) => (i : Int)

theorem those_succ (p : Nat → Bool) (k : Nat) : those p (k + 1) = if p k then those p k ++ [(k : Int)] else those p k := by
  unfold those
  rw [List.range_succ, List.filter_append, List.map_append]
  by_cases h : p k <;> simp [h]

theorem those_len (p : Nat → Bool) (k : Nat) : (those p k).length ≤ k := by
  unfold those
  rw [List.length_map]
  exact Nat.le_trans (List.length_filter_le _ _) (by simp)

theorem those_ints (p : Nat → Bool) (k : Nat) : ints (those p (k + 1)) = if p k then ints (those p k) ++ [.int .i64 (k : Int)] else ints (those p k) := by
  rw [those_succ]; split <;> simp [ints]

set_option maxHeartbeats 1000000 in
theorem ready_does {w : World} {F : Nat → Prop} {b g1 g2 g3 n : Nat} {st lk : Nat → Int} {ab : Nat → List Int} {vf : Nat → Value} (hn : n ≤ 1048576) (hbd : Board w F b g1 g2 g3 n st lk ab vf) :
    Calls Try.prog 39 #[.pointer (some ⟨b, 0, none⟩)] w fun e w' => w.grownBy w' none ∧ ∃ v, e = .returned v ∧ w'.ownsRow w.heap.size 3 1 v (those (fun j => lk j == 0) n).length (ints (those (fun j => lk j == 0) n)) := by
  obtain ⟨i3, hi3, hz3, hs3, hb3⟩ := info3
  obtain ⟨B0, hB0⟩ : ∃ B0, B0 = w.heap.size := ⟨_, rfl⟩
  rw [← hB0]
  replace hB0 : Same B0 w.heap.size := hB0
  obtain ⟨hc0, hc1, hc2⟩ := hbd.cells
  go_enter Try.func39, Try.ntmps39
  go_wp2
  go_loopw [3, 11] (fun v i wr => ∃ k, k ≤ n ∧ i = .int .i64 (k : Nat) ∧ w.grownBy wr none ∧ wr.ownsRow B0 3 1 v (those (fun j => lk j == 0) k).length (ints (those (fun j => lk j == 0) k))) (fun _ i _ => n - (intOf i).toNat)
  case atStart => exact ⟨0, Nat.zero_le _, rfl, World.grownBy.refl w _, World.ownsRow_nil _ _ _ _⟩
  case round =>
    obtain ⟨k, hk, rfl, hgw, hown⟩ := hrel
    by_cases hlt : k < n
    · have hx : wr.cell? ⟨g2, k, none⟩ = some (.int .i64 (lk k)) := (hgw.cell_far _ (hbd.s2.lt g2 rfl).2 (by simp)).trans (hbd.at2 hlt)
      have hlen := those_len (fun j => lk j == 0) k
      have hstep := those_succ (fun j => lk j == 0) k
      have hints := those_ints (fun j => lk j == 0) k
      obtain ⟨ys, hys⟩ : ∃ ys, ys = those (fun j => lk j == 0) k := ⟨_, rfl⟩
      rw [← hys] at hlen hown hstep hints
      replace hys : Same ys (those (fun j => lk j == 0) k) := hys
      have hB1 : B0 ≤ wr.heap.size := by have := hgw.size; unfold Same at hB0; omega
      by_cases hz : lk k = 0
      · rw [if_pos (by simpa using hz)] at hstep hints
        replace hstep : Same (those (fun j => lk j == 0) (k + 1)) (ys ++ [(k : Int)]) := hstep
        replace hints : Same (ints (those (fun j => lk j == 0) (k + 1))) (ints ys ++ [.int .i64 (k : Int)]) := hints
        rw [hz] at hx
        go_wp2_with (at_builtin; refine wpList_append_any _ rfl (.tmp 18) (.tmp 20) 23 rfl B0 3 i3 _ 1 8 under23 hi3 hz3 hs3 hb3 rfl (by decide) _ _ _ rfl (hown.alloc _) _ 1 1 _ [.int .i64 k] rfl (lit_reads _ _ _) (by simp [Value.oneCell']) (by unfold maxLen; omega) (by omega) (by simp; omega) ?_; intro v1 w1 hv1 hg1 hb1)
        go_roundw
        case rel =>
          unfold Same at hstep hints hB0
          refine ⟨k + 1, by omega, by go_num, (hgw.andThen (World.grownBy_alloc wr _ none) (by simp)).andThen hg1 (fun j hj => .inl (by rw [← hB0]; exact (hown.lt j hj).1)), ?_⟩
          rw [hints, hstep, List.length_append]
          exact hv1
        case measure => simp [intOf]; omega
      · rw [if_neg (by simpa using hz)] at hstep hints
        replace hstep : Same (those (fun j => lk j == 0) (k + 1)) ys := hstep
        have hzb : (lk k == 0) = false := by simpa using hz
        go_wp2
        go_roundw
        case rel =>
          unfold Same at hstep
          refine ⟨k + 1, by omega, by go_num, hgw, ?_⟩
          rw [hstep]
          exact hown
        case measure => simp [intOf]; omega
    · obtain rfl : k = n := by omega
      go_wp2
      go_ret
      exact ⟨hgw, _, rfl, hown⟩
end Go.Proofs.Ytoilhpmimcbniaa

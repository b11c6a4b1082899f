/- The law SensorZones. -/
import Derived.Test.YtgllkknleombjaaSensB
namespace Go.Proofs.Ytgllkknleombjaa
open Go.RowKit Go.Sort

def b8 (xs : List Int) : List Value := xs.map (Value.int .i8)
theorem b8_one (xs : List Int) : ∀ u ∈ b8 xs, u.oneCell' = true := by
  intro u hu
  obtain ⟨x, _, rfl⟩ := List.mem_map.1 hu
  rfl
theorem b8_len (xs : List Int) : (b8 xs).length = xs.length := by simp [b8]
theorem b8_at {xs : List Int} {j : Nat} (hj : j < xs.length) : (b8 xs)[j]? = some (.int .i8 (xs.getD j 0)) := by
  unfold b8
  rw [List.getElem?_map, List.getElem?_eq_getElem hj, List.getD_eq_getElem?_getD, List.getElem?_eq_getElem hj]; rfl

theorem reads_holds {w : World} {B : Nat} {A : Option Addr} {zs : List Int} (h : Reads w B 1 A zs.length (b8 zs)) : Holds8 w B A zs := fun hn => by
  obtain ⟨ad, e, hb, hc⟩ := h.2 hn
  exact ⟨ad, e, hb, fun j hj => hc j _ (b8_at hj)⟩
theorem holds_reads {w : World} {B : Nat} {A : Option Addr} {zs : List Int} (h : Holds8 w B A zs) : Reads w B 1 A zs.length (b8 zs) :=
  ⟨by rw [b8_len]; omega, fun hn => by
    obtain ⟨ad, e, hb, hc⟩ := h hn
    refine ⟨ad, e, hb, fun j u hu => ?_⟩
    have hj : j < zs.length := by have := (List.getElem?_eq_some_iff.1 hu).1; rwa [b8_len] at this
    rw [b8_at hj] at hu
    cases hu
    exact hc j hj⟩

/-- The two lists with their marks behind them, each in a block of its own. -/
structure Both (B0 ga ca gb cb : Nat) (xs ys : List Int) (w : World) : Prop where
  a : w.ownsRow B0 23 1 (.slice (some ⟨ga, 0, none⟩) (xs.length + 1) ca) (xs.length + 1) (b8 (xs ++ [77]))
  b : w.ownsRow B0 23 1 (.slice (some ⟨gb, 0, none⟩) (ys.length + 1) cb) (ys.length + 1) (b8 (ys ++ [77]))
  ne : ga ≠ gb

theorem Both.kept {B0 ga ca gb cb : Nat} {xs ys : List Int} {w w' : World} {r : Option Nat} (h : Both B0 ga ca gb cb xs ys w) (hg : w.grownBy w' r) (hr : ∀ x, r = some x → w.heap.size ≤ x) : Both B0 ga ca gb cb xs ys w' := by
  have ka := (h.a.lt ga rfl).2
  have kb := (h.b.lt gb rfl).2
  exact ⟨h.a.kept hg (.inr fun e => by have := hr ga e.symm; omega), h.b.kept hg (.inr fun e => by have := hr gb e.symm; omega), h.ne⟩

theorem row_prefix {w : World} {B0 g cap : Nat} {xs : List Int} (h : w.ownsRow B0 23 1 (.slice (some ⟨g, 0, none⟩) (xs.length + 1) cap) (xs.length + 1) (b8 (xs ++ [77]))) :
    Holds8 w w.heap.size (some ⟨g, 0, none⟩) xs ∧ w.cell? ⟨g, xs.length, none⟩ = some (.int .i8 77) ∧ (∀ j, j < xs.length → w.cell? ⟨g, j, none⟩ = some (.int .i8 (xs.getD j 0))) ∧ (∀ j, w.frozen? ⟨g, j, none⟩ = false) ∧ xs.length ≤ cap ∧ xs.length + 1 ≤ cap := by
  have hc := h.cells rfl
  obtain ⟨g', cap', e, _, _, hle, _⟩ := owns_form h (Nat.succ_pos _)
  obtain ⟨rfl, rfl⟩ : g = g' ∧ cap = cap' := by cases e; exact ⟨rfl, rfl⟩
  have at_ : ∀ j, j < xs.length → (b8 (xs ++ [77]))[j]? = some (.int .i8 (xs.getD j 0)) := fun j hj => by
    rw [b8_at (by rw [List.length_append]; omega), List.getD_eq_getElem?_getD, List.getElem?_append_left hj, ← List.getD_eq_getElem?_getD]
  refine ⟨fun _ => ⟨_, rfl, (h.lt g rfl).2, fun j hj => hc j _ (at_ j hj)⟩, ?_, fun j hj => ?_, fun j => h.frozenAt j, by omega, hle⟩
  · rw [h.cellAt _ (by omega), b8_at (by rw [List.length_append]; simp), List.getD_eq_getElem?_getD, List.getElem?_append_right (Nat.le_refl _)]
    simp
  · rw [h.cellAt j (by omega), at_ j hj]

theorem Both.setA {B0 ga ca gb cb : Nat} {xs ys : List Int} {w : World} (h : Both B0 ga ca gb cb xs ys w) {i : Nat} (hi : i < xs.length) (x : Int) : Both B0 ga ca gb cb (xs.set i x) ys (w.setCell ⟨ga, i, none⟩ (.int .i8 x)) ∧ w.grownBy (w.setCell ⟨ga, i, none⟩ (.int .i8 x)) (some ga) := by
  obtain ⟨h1, h2⟩ := h.a.stored i (.int .i8 x)
  refine ⟨⟨?_, h.b.kept h2 (.inr fun e => h.ne (by cases e; rfl)), h.ne⟩, h2⟩
  have e : (b8 (xs ++ [77])).set i (.int .i8 x) = b8 (xs.set i x ++ [77]) := by
    unfold b8
    rw [← List.map_set, List.set_append_left _ _ hi]
  rw [e] at h1
  rwa [List.length_set]
theorem Both.setB {B0 ga ca gb cb : Nat} {xs ys : List Int} {w : World} (h : Both B0 ga ca gb cb xs ys w) {i : Nat} (hi : i < ys.length) (x : Int) : Both B0 ga ca gb cb xs (ys.set i x) (w.setCell ⟨gb, i, none⟩ (.int .i8 x)) ∧ w.grownBy (w.setCell ⟨gb, i, none⟩ (.int .i8 x)) (some gb) := by
  obtain ⟨h1, h2⟩ := h.b.stored i (.int .i8 x)
  refine ⟨⟨h.a.kept h2 (.inr fun e => h.ne (by cases e; rfl)), ?_, h.ne⟩, h2⟩
  have e : (b8 (ys ++ [77])).set i (.int .i8 x) = b8 (ys.set i x ++ [77]) := by
    unfold b8
    rw [← List.map_set, List.set_append_left _ _ hi]
  rw [e] at h1
  rwa [List.length_set]

theorem wrap8_bounds (x : Int) : -128 ≤ IntKind.i8.wrap x ∧ IntKind.i8.wrap x ≤ 127 := by
  simp only [IntKind.wrap, IntKind.bits, IntKind.signed]; simp; split <;> omega
theorem small_set {zs : List Int} (h : Small zs) (i : Nat) {x : Int} (hx : -128 ≤ x ∧ x ≤ 127) : Small (zs.set i x) :=
  small_of_mem fun y hy => by
    rcases List.mem_or_eq_of_mem_set hy with h' | rfl
    · exact small_mem h y h'
    · exact hx

/-- Of the numbers from i on nothing has turned. -/
def From (i : Nat) (xs zs : List Int) : Prop := ∀ j, i ≤ j → j < zs.length → xs.getD j 0 = zs.getD j 0
theorem From.set {i : Nat} {xs zs : List Int} (h : From i xs zs) (x : Int) : From (i + 1) (xs.set i x) zs := fun j h1 h2 => by
  rw [List.getD_eq_getElem?_getD, List.getElem?_set_ne (by omega), ← List.getD_eq_getElem?_getD]
  exact h j (by omega) h2

end Go.Proofs.Ytgllkknleombjaa

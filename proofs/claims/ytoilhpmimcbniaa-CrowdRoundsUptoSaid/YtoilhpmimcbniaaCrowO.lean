/- CrowdRounds, whatever is handed in (of bulk at most 1048576): what is lent, the rounds by the program (twice) and by the document; the call answers true, and what was handed in reads as before. -/
import Derived.Test.YtoilhpmimcbniaaCrowN
import Derived.Test.YtoilhpmimcbniaaLawA
import Derived.Deep.Matrix
namespace Go.Proofs.Ytoilhpmimcbniaa
open Go.ChangeShapes Go.WideShapes Go.ChangeAt Go.RowKit Go.Deep

/-- The rows' numbers, as the reading has them. -/
def rowsOf (len : Nat) (L : Nat → Nat) (Z : Nat → List Int) : List (List Int) := (List.range len).map fun r => (Z r).take (L r)

theorem rowsOf_row {len : Nat} {L : Nat → Nat} {Z : Nat → List Int} {j : Nat} (hj : j < len) : row (rowsOf len L Z) j = (Z j).take (L j) := by
  unfold row rowsOf
  rw [List.getD_eq_getElem?_getD, List.getElem?_map, List.getElem?_range hj]
  rfl
theorem rowsOf_out {len : Nat} {L : Nat → Nat} {Z : Nat → List Int} {j : Nat} (hj : ¬ j < len) : row (rowsOf len L Z) j = [] := by
  unfold row rowsOf
  rw [List.getD_eq_getElem?_getD, List.getElem?_eq_none (by simp; omega)]
  rfl
theorem rowsOf_len {len : Nat} {L : Nat → Nat} {Z : Nat → List Int} : (rowsOf len L Z).length = len := by simp [rowsOf]

/-- How many numbers in all. -/
def total (xss : List (List Int)) : Nat → Nat
  | 0 => 0
  | k + 1 => total xss k + (row xss k).length

theorem total_mono (xss : List (List Int)) {i j : Nat} (h : i ≤ j) : total xss i ≤ total xss j := by
  induction h with
  | refl => exact Nat.le_refl _
  | step _ ih => exact Nat.le_trans ih (Nat.le_add_right _ _)
theorem abv_total (xss : List (List Int)) (k u : Nat) : (abv xss k u).length ≤ total xss k := by
  induction k with
  | zero => exact Nat.le_refl _
  | succ k ih =>
    simp only [abv, total, List.length_append, List.length_replicate]
    have := List.count_le_length (a := (u : Int)) (l := row xss k)
    omega
theorem total_out (xss : List (List Int)) {k : Nat} (hk : xss.length ≤ k) : total xss k = total xss xss.length := by
  induction hk with
  | refl => rfl
  | @step m hm ih =>
    have hm : xss.length ≤ m := hm
    have h0 : row xss m = [] := by unfold row; rw [List.getD_eq_getElem?_getD, List.getElem?_eq_none hm]; rfl
    simp [total, ih, h0]
theorem abv_le (xss : List (List Int)) (k u : Nat) : (abv xss k u).length ≤ total xss xss.length := by
  refine Nat.le_trans (abv_total xss k u) ?_
  rcases Nat.le_total k xss.length with h | h
  · exact total_mono xss h
  · exact Nat.le_of_eq (total_out xss h)
theorem row_le (xss : List (List Int)) (j : Nat) : (row xss j).length ≤ total xss xss.length := by
  by_cases hj : j < xss.length
  · exact Nat.le_trans (Nat.le_add_left _ _) (total_mono xss (i := j + 1) hj)
  · unfold row
    rw [List.getD_eq_getElem?_getD, List.getElem?_eq_none (by omega)]
    exact Nat.zero_le _

theorem bulk_lits {H : Type} (k : IntKind) (zs : List Int) : Rows.uptoBulkAll (lits (H := H) k zs) = zs.length := by
  induction zs with
  | nil => rfl
  | cons z zs ih => simp only [lits, List.map_cons, Rows.uptoBulkAll, Rows.uptoBulk, List.length_cons]; simp only [lits] at ih; omega

theorem bulk_row {H : Type} (k : IntKind) (A : Option Addr) (L : Nat) (zs : List Int) (hA : A = none → zs = []) : (zs.take L).length + 1 ≤ Rows.uptoBulk (intRow (H := H) k A L zs) := by
  cases A with
  | none => rw [hA rfl]; simp [intRow, Rows.uptoBulk]
  | some a => simp only [intRow, Rows.uptoBulk, bulk_lits]; omega

theorem bulk_rows {H : Type} (A : Nat → Option Addr) (L : Nat → Nat) (Z : Nat → List Int) (len : Nat) (hA : ∀ r, r < len → A r = none → Z r = []) : ∀ k, k ≤ len →
    k + total (rowsOf len L Z) k ≤ Rows.uptoBulkAll ((List.range k).map fun r => intRow (H := H) .i64 (A r) (L r) (Z r))
  | 0, _ => by simp [total]
  | k + 1, hk => by
    rw [List.range_succ, List.map_append, bulks.append]
    have h1 := bulk_rows (H := H) A L Z len hA k (by omega)
    have h2 := bulk_row (H := H) .i64 (A k) (L k) (Z k) (hA k (by omega))
    simp only [total, rowsOf_row (show k < len by omega), List.map_cons, List.map_nil, Rows.uptoBulkAll]
    omega

theorem getD_take (zs : List Int) (n i : Nat) (h : i < n) : (zs.take n).getD i 0 = zs.getD i 0 := by
  rw [List.getD_eq_getElem?_getD, List.getD_eq_getElem?_getD, List.getElem?_take_of_lt h]

theorem reads_of {w : World} {A : Option Addr} {zs : List Int} {n : Nat} (hlen : zs.length = n) (h : 0 < n → ∃ a, A = some a ∧ ∀ i, i < n → w.cell? (a.add i) = some (.int .i64 (zs.getD i 0))) : Reads w w.heap.size 1 A n (ints zs) := by
  refine ⟨by simp [ints, hlen], fun hn => ?_⟩
  obtain ⟨a, e, hc⟩ := h hn
  refine ⟨a, e, ?_, fun j u hu => ?_⟩
  · have := World.block_lt_of_cell? w _ (hc 0 hn)
    rwa [block_of_add] at this
  · have hj : j < n := by have := (List.getElem?_eq_some_iff.1 hu).1; simp [ints, hlen] at this; exact this
    rw [ints_at hu]
    exact hc j hj

theorem ll_of {w : World} {a : Addr} {len : Nat} {A : Nat → Option Addr} {L C : Nat → Nat} {Z : Nat → List Int}
    (h : ∀ r, r < len → w.cell? (a.add r) = some (.slice (A r) (L r) (C r)) ∧ L r ≤ C r ∧ (Z r).length = C r ∧ (A r = none → C r = 0) ∧ ∀ a', A r = some a' → ∀ c, c < C r → w.cell? (a'.add c) = some (.int .i64 ((Z r).getD c 0))) :
    LL w w.heap.size (some a) (rowsOf len L Z) := fun hn => by
  rw [rowsOf_len] at hn
  refine ⟨a, rfl, ?_, fun j hj => ?_⟩
  · have := World.block_lt_of_cell? w _ (h 0 hn).1
    rwa [block_of_add] at this
  · rw [rowsOf_len] at hj
    obtain ⟨h1, h2, h3, h4, h5⟩ := h j hj
    have hl : ((Z j).take (L j)).length = L j := by rw [List.length_take]; omega
    rw [rowsOf_row hj, hl]
    refine ⟨A j, C j, h1, reads_of hl fun hp => ?_⟩
    cases hA : A j with
    | none => have := h4 hA; omega
    | some a' => exact ⟨a', rfl, fun i hi => by rw [getD_take _ _ _ hi]; exact h5 a' hA i (by omega)⟩

namespace crowdRounds
theorem own : ownKnob Try.prog.godebug = none := by kernel_rfl
theorem laidOut : laidOutB Try.prog = true := by kernel_rfl
theorem under3 : Try.prog.underlying 3 = some (.int .i64) := by kernel_rfl
theorem under4 : Try.prog.underlying 4 = some .bool := by kernel_rfl
theorem cells3 : Try.prog.cellsOf 3 = 1 := by kernel_rfl
theorem cells23 : Try.prog.cellsOf 23 = 1 := by kernel_rfl

theorem walk (xss : List (List Int)) (ys : List Int) (htot : xss.length + total xss xss.length + ys.length ≤ 1048576)
    (A D : Option Addr) (c d : Nat) (w : World) (ha : LL w w.heap.size A xss) (hd : Reads w w.heap.size 1 D ys.length (ints ys)) :
    Calls Try.prog 3 #[.slice A xss.length c, .slice D ys.length d] w fun e w' => e = .returned (.bool true) ∧ w.grownBy w' none :=
  law_true xss (by omega) (fun j => by have := row_le xss j; omega) (fun k u => by have := abv_le xss k u; omega) ys (by omega) A D _ _ c d w (Nat.le_refl _) (Nat.le_refl _) ha hd

set_option maxRecDepth 100000 in
theorem contract (H : Type) (enc : TypeId × Value → H) (W : World) (base : Nat) (args : Array Value) (ds gs : List (DataW H)) (before : List MemPlace)
    (hval : ∀ (j : Nat) t v, Try.f3.params[j]? = some t → args[j]? = some v → Value.okWide Try.prog W .any base t v)
    (hW : DataW.Whole enc Try.prog Try.f3.params.toList Rows.crowdRoundsSpec.vars false W args.toList ds gs before) (hk : Rows.uptoSmall H (ds ++ gs) = true) :
    Calls Try.prog 3 args W fun e W' => ∃ v, e = .returned v ∧ Rows.crowdRoundsSpec.post enc Try.prog Try.f3 false true false false W args v W' := by
  have hW' := hW
  obtain ⟨p, q, hA0, hV, rfl, hfz, hnd⟩ := hW
  have hA : DataW.TrodAll enc Try.prog W 0 (fun _ => true) true Try.f3.params.toList args.toList ds p := hA0
  rw [Try.params3] at hA hval
  obtain ⟨v0, vs0, d0, ds0, p0, q0, hargs, rfl, rfl, h0, r0⟩ := trodAll_cons hA
  obtain ⟨v1, vs1, d1, ds1, p1, q1, rfl, rfl, rfl, h1, r1⟩ := trodAll_cons r0
  obtain ⟨rfl, rfl, rfl⟩ := trodAll_nil r1
  obtain rfl : args = #[v0, v1] := by cases args; simp_all
  obtain ⟨rfl, rfl⟩ := trodVars_none hV
  have hv0 := hval 0 22 v0 rfl rfl
  have hv1 := hval 1 23 v1 rfl rfl
  clear hval
  have hfin : ∀ W', W.grownBy W' none → ∃ v, Ending.returned (.bool true) = .returned v ∧ Rows.crowdRoundsSpec.post enc Try.prog Try.f3 false true false false W #[v0, v1] v W' := fun W' hg =>
    ⟨_, rfl, law_post laidOut (tb := 4) rfl under4 (by
      intro t ht
      have : t = 22 ∨ t = 23 := by simpa [Try.params3] using ht
      rcases this with rfl | rfl <;> exact ⟨by kernel_rfl, of_decide_eq_true (by kernel_rfl)⟩) rfl rfl hW' ⟨hg.os, hg.tape, hg.output, hg.size, fun k h => hg.block k h (by simp)⟩⟩
  suffices hh : ∃ (xss : List (List Int)) (ys : List Int) (A D : Option Addr) (c d : Nat), v0 = .slice A xss.length c ∧ v1 = .slice D ys.length d ∧ xss.length + total xss xss.length + ys.length ≤ 1048576 ∧ LL W W.heap.size A xss ∧ Reads W W.heap.size 1 D ys.length (ints ys) by
    obtain ⟨xss, ys, A, D, c, d, rfl, rfl, htot, ha, hd⟩ := hh
    refine (walk xss ys htot A D c d W ha hd).mono fun e W' ⟨he, hg⟩ => ?_
    subst he
    exact hfin W' hg
  have hbulk : Rows.uptoBulk d0 + Rows.uptoBulk d1 ≤ 1048576 := by
    have h := bulks.bound hk
    simp only [List.append_nil, Rows.uptoBulkAll] at h
    omega
  obtain ⟨a0, l0, c0, rfl⟩ := okWide_slice under22 hv0
  obtain ⟨a1, l1, c1, rfl⟩ := okWide_slice under23 hv1
  obtain ⟨n0, e0⟩ := h0
  obtain ⟨n1, e1⟩ := h1
  have two : ∃ (ys : List Int) (D : Option Addr) (d : Nat), Value.slice a1 l1 c1 = .slice D ys.length d ∧ ys.length ≤ Rows.uptoBulk d1 ∧ Reads W W.heap.size 1 D ys.length (ints ys) := by
    rcases open_ints under23 under3 cells3 e1 with ⟨hc, _⟩ | ⟨a, len, cap, zs, hc, _, hl, _, hlen, hx, hcell, _⟩
    · obtain ⟨rfl, rfl, rfl⟩ : a1 = _ ∧ l1 = _ ∧ c1 = _ := by simpa [Value.cells] using hc
      exact ⟨[], none, 0, rfl, Nat.zero_le _, reads_of rfl fun h => absurd h (Nat.lt_irrefl _)⟩
    · obtain ⟨rfl, rfl, rfl⟩ : a1 = _ ∧ l1 = _ ∧ c1 = _ := by simpa [Value.cells] using hc
      simp only [if_true] at hlen
      have hlt : (zs.take l1).length = l1 := by rw [List.length_take]; omega
      have hd1 : d1 = .slice (lits .i64 (zs.take l1)) (lits .i64 (zs.drop l1)) := (Prod.mk.inj hx).1
      refine ⟨zs.take l1, some a, c1, by rw [hlt], ?_, ?_⟩
      · rw [hd1]; simp only [Rows.uptoBulk, bulk_lits]; omega
      · rw [hlt]
        exact reads_of hlt fun _ => ⟨a, rfl, fun i hi => by rw [getD_take _ _ _ hi]; exact hcell i (by omega)⟩
  obtain ⟨ys, D, d, e2, hy, hys⟩ := two
  rw [e2]
  rcases open_int_rows under22 under23 under3 cells23 cells3 e0 with ⟨hc, _⟩ | ⟨a, len, cap, A, L, C, Z, hc, _, hl, _, hx, hcell⟩
  · obtain ⟨rfl, rfl, rfl⟩ : a0 = _ ∧ l0 = _ ∧ c0 = _ := by simpa [Value.cells] using hc
    have := bulks.one_le d0
    exact ⟨[], ys, none, D, 0, d, rfl, rfl, by simp [total]; omega, fun h => absurd h (Nat.lt_irrefl _), hys⟩
  · obtain ⟨rfl, rfl, rfl⟩ : a0 = _ ∧ l0 = _ ∧ c0 = _ := by simpa [Value.cells] using hc
    have hd0 := (Prod.mk.inj hx).1
    have hZ : ∀ r, r < l0 → A r = none → Z r = [] := fun r hr hA => by
      obtain ⟨_, _, _, h4, _, h6, _⟩ := hcell r (by omega)
      exact List.length_eq_zero_iff.1 (by rw [h4]; exact h6 hA)
    have hb := bulk_rows (H := H) A L Z l0 hZ l0 (Nat.le_refl _)
    have hb2 : Rows.uptoBulkAll ((List.range l0).map fun r => intRow (H := H) .i64 (A r) (L r) (Z r)) ≤ Rows.uptoBulk d0 := by
      rw [hd0]; simp only [Rows.uptoBulk]; omega
    refine ⟨rowsOf l0 L Z, ys, some a, D, c0, d, by rw [rowsOf_len], rfl, ?_, ll_of (A := A) (C := C) fun r hr => ?_, hys⟩
    · simp only [rowsOf_len]; omega
    · obtain ⟨h1, h2, _, h4, _, h6, h7⟩ := hcell r (by omega)
      exact ⟨h1, h2, h4, h6, fun a' ha => (h7 a' ha).2⟩

set_option maxRecDepth 100000 in
theorem lifted (os : Os) (started : os.Started) (H : Type) (enc : TypeId × Value → H) (F : Stop.Interp) :
    ReturnsInHanded {} Try.checked os 3 .any ((Rows.OpenSpec.upto Rows.crowdRoundsSpec).pre6 enc Try.prog Try.f3 Rows.crowdRoundsUptoRow.domain false) (((Rows.OpenSpec.upto Rows.crowdRoundsSpec).at F).post enc Try.prog Try.f3 false true false false) := by
  refine returnsInHanded_of_cond (C := Try.checked) (s := Rows.OpenSpec.upto Rows.crowdRoundsSpec) (k := Rows.uptoSmall) rfl own started (by kernel_rfl) Try.func3
    (OpenSpec.witness (enc := enc) (C := Try.checked) (s := Rows.OpenSpec.upto Rows.crowdRoundsSpec) (k := Rows.uptoSmall) rfl false ⟨#[], #[.slice none 0 0, .slice none 0 0], []⟩ 8 (by kernel_rfl) (by kernel_rfl) (by kernel_rfl)
      (x := ([.nil, .nil], [], [])) (by kernel_rfl) rfl (by kernel_rfl)) ?_
  intro W base args ds gs before hval hW _ hk _
  exact contract H enc W base args ds gs before hval hW hk

theorem proved : Rows.CrowdRoundsUptoSaid :=
  OpenClaim.holds_of_cond 3 Try.f3 rfl rfl rfl rfl rfl rfl rfl ⟨rfl, rfl, rfl, rfl, rfl⟩ rfl rfl rfl rfl rfl (by kernel_rfl) Try.func3 (by kernel_rfl)
    (of_decide_eq_true (by kernel_rfl)) (by unfold Func.isWrapper; first | (rw [if_pos (by decide +kernel)]; kernel_rfl) | (rw [if_neg (by decide +kernel)]; exact ⟨rfl, rfl⟩))
    (fun os started H enc _ F => lifted os started H enc F)
end crowdRounds
end Go.Proofs.Ytoilhpmimcbniaa

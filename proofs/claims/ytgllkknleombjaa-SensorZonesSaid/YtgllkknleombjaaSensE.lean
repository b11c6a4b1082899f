/- SensorZones, whatever is handed in: the program's Zone and Median answer as the document's do, twice over the same lists; the call answers true, and what was handed in reads as before. -/
import Derived.Test.YtgllkknleombjaaSensD
import Derived.Test.YtgllkknleombjaaLawA
import Derived.SizedLaws
namespace Go.Proofs.Ytgllkknleombjaa.sensorZones
open Go.ChangeShapes Go.WideShapes Go.ChangeAt Go.RowKit

theorem own : ownKnob Try.prog.godebug = none := by kernel_rfl
theorem laidOut : laidOutB Try.prog = true := by kernel_rfl
theorem under23 : Try.prog.underlying 23 = some (.int .i8) := by kernel_rfl
theorem under4 : Try.prog.underlying 4 = some .bool := by kernel_rfl
theorem cells23 : Try.prog.cellsOf 23 = 1 := by kernel_rfl
theorem bytes23 : Try.prog.bytesOf 23 = 1 := by kernel_rfl
theorem ok22 : Try.prog.readableRec 22 = true ∧ 22 < Try.prog.types.size := ⟨by kernel_rfl, of_decide_eq_true (by kernel_rfl)⟩
theorem ok23 : Try.prog.readableRec 23 = true ∧ 23 < Try.prog.types.size := ⟨by kernel_rfl, of_decide_eq_true (by kernel_rfl)⟩

theorem opens {H : Type} {enc : TypeId × Value → H} {W : World} {base : Nat} {v : Value} {d : DataW H} {p : List MemPlace} (hv : Value.okWide Try.prog W .any base 22 v) (h : DataW.Trod enc Try.prog W 0 (fun _ => true) true 22 v d p)
    (hs : ∀ elems spare, d = .slice elems spare → (elems.length + spare.length) * Try.prog.bytesOf 23 ≤ reachBytes) :
    ∃ (zs : List Int) (A : Option Addr) (c : Nat), v = .slice A zs.length c ∧ zs.length ≤ 140737488351232 ∧ Small zs ∧ Holds8 W W.heap.size A zs := by
  obtain ⟨a, len, cap, rfl⟩ := okWide_slice under22 hv
  obtain ⟨n, e⟩ := h
  rcases open_ints under22 under23 cells23 e with ⟨hc, _⟩ | ⟨a', len', cap', zs, hc, _, hl, _, hlen, hx, hcell, hwf⟩
  · obtain ⟨rfl, rfl, rfl⟩ : a = _ ∧ len = _ ∧ cap = _ := by simpa [Value.cells] using hc
    exact ⟨[], none, 0, rfl, by decide, fun k => by simp, fun h => absurd h (Nat.lt_irrefl _)⟩
  · obtain ⟨rfl, rfl, rfl⟩ : a = _ ∧ len = _ ∧ cap = _ := by simpa [Value.cells] using hc
    simp only [if_true] at hlen
    have hlt : (zs.take len).length = len := by rw [List.length_take]; omega
    have hb := hs _ _ (Prod.mk.inj hx).1
    rw [bytes23] at hb
    simp only [lits, List.length_map, List.length_take, List.length_drop, reachBytes] at hb
    refine ⟨zs.take len, some a', cap, by rw [hlt], by omega, small_of_mem fun x hx => bounds_i8 (hwf x (List.mem_of_mem_take hx)), fun hn => ?_⟩
    rw [hlt] at hn ⊢
    have hcl : ∀ j, j < len → W.cell? (a'.add j) = some (.int .i8 ((zs.take len).getD j 0)) := fun j hj => by
      rw [List.getD_eq_getElem?_getD, List.getElem?_take_of_lt hj, ← List.getD_eq_getElem?_getD]
      exact hcell j (by omega)
    refine ⟨a', rfl, ?_, hcl⟩
    have := World.block_lt_of_cell? W _ (hcl 0 hn)
    rwa [addblk] at this

set_option maxRecDepth 100000 in
theorem lifted (os : Os) (started : os.Started) (H : Type) (enc : TypeId × Value → H) :
    ReturnsInHanded {} Try.checked os 3 .any (Rows.sensorZonesSpec.pre6 enc Try.prog Try.f3 Rows.sensorZonesRow.domain false) (Rows.sensorZonesSpec.post enc Try.prog Try.f3 false true false false) := by
  refine returnsInHanded_of_change_sized (C := Try.checked) own started (by kernel_rfl) Try.func3
    (ChangeSpec.witness6 (enc := enc) (C := Try.checked) false ⟨#[], #[.slice none 0 0, .int .i8 0, .slice none 0 0], []⟩ 8 (by kernel_rfl) (by kernel_rfl) (by kernel_rfl) (by kernel_rfl)) ?_
  intro W base args ds gs before hval hW _ hsz _
  have hW' := hW
  obtain ⟨p, q, hA0, hV, rfl, hfz, hnd⟩ := hW
  have hA : DataW.TrodAll enc Try.prog W 0 (fun _ => true) true Try.f3.params.toList args.toList ds p := hA0
  have hval : ∀ (j : Nat) t v, Try.f3.params[j]? = some t → args[j]? = some v → Value.okWide Try.prog W .any base t v := hval
  rw [Try.params3] at hA hval
  obtain ⟨v0, vs0, d0, ds0, p0, q0, hargs, rfl, rfl, h0, r0⟩ := trodAll_cons hA
  obtain ⟨v1, vs1, d1, ds1, p1, q1, rfl, rfl, rfl, h1, r1⟩ := trodAll_cons r0
  obtain ⟨v2, vs2, d2, ds2, p2, q2, rfl, rfl, rfl, h2, r2⟩ := trodAll_cons r1
  obtain ⟨rfl, rfl, rfl⟩ := trodAll_nil r2
  obtain rfl : args = #[v0, v1, v2] := by cases args; simp_all
  obtain ⟨rfl, rfl⟩ := trodVars_none hV
  have hv0 := hval 0 22 v0 rfl rfl
  have hv1 := hval 1 23 v1 rfl rfl
  have hv2 := hval 2 22 v2 rfl rfl
  clear hval
  have hsz : (DataW.weightsEach Try.prog ([22, 23, 22] ++ Rows.sensorZonesSpec.plain.varTypes Try.prog) ([d0, d1, d2] ++ [])).all (· ≤ reachBytes) = true := by
    have e : Try.f3.params.toList = [22, 23, 22] := by rw [Try.params3]
    rw [← e]; exact hsz
  obtain ⟨xs, A, c, rfl, hx1, hx2, hx3⟩ := opens hv0 h0 (fun el sp e => sized_slice hsz (j := 0) (t := 22) rfl (by rw [e]; rfl) under22)
  obtain ⟨ys, D, c', rfl, hy1, hy2, hy3⟩ := opens hv2 h2 (fun el sp e => sized_slice hsz (j := 2) (t := 22) rfl (by rw [e]; rfl) under22)
  obtain ⟨z, rfl, _, _, _⟩ := open_int under23 hv1 h1
  refine (zones_true xs ys z hx2 hy2 hx1 hy1 A D c c' W hx3 hy3).mono fun e W' ⟨he, hb⟩ => ?_
  subst he
  exact ⟨_, rfl, law_post laidOut (tb := 4) rfl under4 (by
    intro t ht
    have : t = 22 ∨ t = 23 ∨ t = 22 := by simpa [Try.params3] using ht
    rcases this with rfl | rfl | rfl
    · exact ok22
    · exact ok23
    · exact ok22) rfl rfl hW' hb⟩

theorem proved : Rows.SensorZonesSaid :=
  OpenClaim.holds_of_wide 3 Try.f3 rfl rfl rfl rfl rfl rfl rfl ⟨rfl, rfl, rfl, rfl, rfl⟩ rfl rfl rfl rfl rfl (by kernel_rfl) Try.func3 (by kernel_rfl)
    (of_decide_eq_true (by kernel_rfl)) (by unfold Func.isWrapper; first | (rw [if_pos (by decide +kernel)]; kernel_rfl) | (rw [if_neg (by decide +kernel)]; exact ⟨rfl, rfl⟩))
    (fun os started H enc _ => lifted os started H enc)
end Go.Proofs.Ytgllkknleombjaa.sensorZones

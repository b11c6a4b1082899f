/- SensorParts, whatever is handed in: zones part the marks, the median has at least half on either side and hangs on no order; SensorNames: the chapter's ends. Each call answers true, and what was handed in reads as before. The curve is tied to the program's text. -/
import Derived.Test.YtgllkknleombjaaDoorPartD
import Derived.Test.YtgllkknleombjaaDoorLawA
import Derived.Test.YtgllkknleombjaaDoorCards
import Derived.Test.YtgllkknleombjaaDoorTie
import Derived.SizedLaws
import Derived.Deep.DeepHandedRow
import Derived.Lib.LaidTab
namespace Go.Proofs.YtgllkknleombjaaDoor.sensor
open Go.ChangeShapes Go.WideShapes Go.ChangeAt Go.RowKit

theorem own : ownKnob Tryd.prog.godebug = none := by kernel_rfl
theorem laidOut : laidOutB Tryd.prog = true := by kernel_rfl
theorem under23 : Tryd.prog.underlying 23 = some (.int .i8) := by kernel_rfl
theorem under2 : Tryd.prog.underlying 2 = some (.int .i64) := by kernel_rfl
theorem under4 : Tryd.prog.underlying 4 = some .bool := by kernel_rfl
theorem under41 : Tryd.prog.underlying 41 = some (.array 16 2) := by kernel_rfl
theorem cells23 : Tryd.prog.cellsOf 23 = 1 := by kernel_rfl
theorem cells2 : Tryd.prog.cellsOf 2 = 1 := by kernel_rfl
theorem cells41 : Tryd.prog.cellsOf 41 = 16 := by kernel_rfl
theorem bytes23 : Tryd.prog.bytesOf 23 = 1 := by kernel_rfl
theorem gTab : Tryd.prog.globalNamed "reveille/sensor.table" = some 0 := by kernel_rfl
theorem gTabType : (Tryd.prog.globals[0]?).map (·.type) = some 41 := by kernel_rfl
theorem ok22 : Tryd.prog.readableRec 22 = true ∧ 22 < Tryd.prog.types.size := ⟨by kernel_rfl, of_decide_eq_true (by kernel_rfl)⟩
theorem ok23 : Tryd.prog.readableRec 23 = true ∧ 23 < Tryd.prog.types.size := ⟨by kernel_rfl, of_decide_eq_true (by kernel_rfl)⟩

theorem table {W : World} (h : laidMetH Tryd.prog [("reveille/sensor.table", Rows.laid_reveille_sensor_table)] W) : Tab W := by
  have t : Lib.TabIs Tryd.prog W "reveille/sensor.table" .i64 curve := Lib.tabIs_of_head (rest := []) gTab gTabType under41 under2 cells2 cells41 h
  intro i hi
  have := t.cell gTab i hi
  exact this

theorem opens {H : Type} {enc : TypeId × Value → H} {W : World} {base : Nat} {v : Value} {d : DataW H} {p : List MemPlace} (hv : Value.okWide Tryd.prog W .any base 22 v) (h : DataW.Trod enc Tryd.prog W 0 (fun _ => true) true 22 v d p)
    (hs : ∀ elems spare, d = .slice elems spare → (elems.length + spare.length) * Tryd.prog.bytesOf 23 ≤ reachBytes) :
    ∃ (zs : List Int) (A : Option Addr) (c : Nat), v = .slice A zs.length c ∧ zs.length ≤ 140737488351232 ∧ zs.length ≤ c ∧ Small zs ∧ Holds8 W W.heap.size A zs := by
  obtain ⟨a, len, cap, rfl⟩ := okWide_slice under22 hv
  obtain ⟨n, e⟩ := h
  rcases open_ints under22 under23 cells23 e with ⟨hc, _⟩ | ⟨a', len', cap', zs, hc, _, hl, _, hlen, hx, hcell, hwf⟩
  · obtain ⟨rfl, rfl, rfl⟩ : a = _ ∧ len = _ ∧ cap = _ := by simpa [Value.cells] using hc
    exact ⟨[], none, 0, rfl, by decide, Nat.le_refl _, fun k => by simp, fun h => absurd h (Nat.lt_irrefl _)⟩
  · obtain ⟨rfl, rfl, rfl⟩ : a = _ ∧ len = _ ∧ cap = _ := by simpa [Value.cells] using hc
    simp only [if_true] at hlen
    have hlt : (zs.take len).length = len := by rw [List.length_take]; omega
    have hb := hs _ _ (Prod.mk.inj hx).1
    rw [bytes23] at hb
    simp only [lits, List.length_map, List.length_take, List.length_drop, reachBytes] at hb
    refine ⟨zs.take len, some a', cap, by rw [hlt], by omega, by omega, small_of_mem fun x hx => bounds_i8 (hwf x (List.mem_of_mem_take hx)), fun hn => ?_⟩
    rw [hlt] at hn ⊢
    have hcl : ∀ j, j < len → W.cell? (a'.add j) = some (.int .i8 ((zs.take len).getD j 0)) := fun j hj => by
      rw [List.getD_eq_getElem?_getD, List.getElem?_take_of_lt hj, ← List.getD_eq_getElem?_getD]
      exact hcell j (by omega)
    refine ⟨a', rfl, ?_, hcl⟩
    have := World.block_lt_of_cell? W _ (hcl 0 hn)
    rwa [addblk] at this

/-- A world for the witness: the settled one, the curve (block 0) as its initialiser lays it. -/
noncomputable def laidWorld (os : Os) : World :=
  { World.holding Tryd.prog os ⟨#[], #[], []⟩ with heap := (World.holding Tryd.prog os ⟨#[], #[], []⟩).heap.modify 0 fun
      | .cells _ t frozen => .cells #[.int .i64 625000, .int .i64 2122500, .int .i64 3145000, .int .i64 4167500, .int .i64 5190000, .int .i64 6212500, .int .i64 7235000, .int .i64 8257500, .int .i64 9280000, .int .i64 10302500, .int .i64 11325000, .int .i64 12347500, .int .i64 13370000, .int .i64 14392500, .int .i64 15415000, .int .i64 16937500] t frozen
      | o => o }

namespace parts
theorem laid_met (os : Os) : laidMet Tryd.prog Rows.sensorPartsRow.laid ((laidWorld os).forCall (fun _ _ => 0) ⟨#[], #[.slice none 0 0, .int .i8 0, .slice none 0 0], []⟩).memory :=
  laidMet_of_run' 8 (by kernel_rfl) (by kernel_rfl)
theorem reads (os : Os) {H : Type} (enc : TypeId × Value → H) : ∃ places, DataW.whole enc Tryd.prog ((laidWorld os).forCall (fun _ _ => 0) ⟨#[], #[.slice none 0 0, .int .i8 0, .slice none 0 0], []⟩).memory Tryd.f3.params.toList Rows.sensorPartsSpec.vars false #[Value.slice none 0 0, .int .i8 0, .slice none 0 0].toList 8 = some ([.nil, .lit (.int .i8 0), .nil], [], places) :=
  ⟨[], by kernel_rfl⟩

set_option maxRecDepth 100000 in
theorem lifted (os : Os) (started : os.Started) (H : Type) (enc : TypeId × Value → H) (F : Stop.Interp) :
    ReturnsInHanded {} Tryd.checked os 3 .any ((OpenSpec.ofChange Rows.sensorPartsSpec).preRow enc Tryd.prog Tryd.f3 Rows.sensorPartsRow.domain false Rows.sensorPartsRow.laid) (((OpenSpec.ofChange Rows.sensorPartsSpec).at F).post enc Tryd.prog Tryd.f3 false true false false) := by
  obtain ⟨places, hx⟩ := reads os enc
  refine returnsInHanded_of_row (C := Tryd.checked) (s := OpenSpec.ofChange Rows.sensorPartsSpec) own started (by kernel_rfl) Tryd.func3
    (witness_row_at (enc := enc) (C := Tryd.checked) false (laidWorld os) #[.slice none 0 0, .int .i8 0, .slice none 0 0] rfl (by kernel_rfl) (by kernel_rfl) (by kernel_rfl)
      (OpenSpec.preRow_of_cond 8 hx (by kernel_rfl) (fun k hk => by cases hk) (by kernel_rfl) (laid_met os))) ?_
  intro W base args ds gs before hval hW _ _ hsz hL _ _
  have hT := table hL
  have h0W : 0 < W.heap.size := World.block_lt_of_cell? W _ (hT 0 (by omega))
  have hW' := hW
  obtain ⟨p, q, hA0, hV, rfl, hfz, hnd⟩ := hW
  have hA : DataW.TrodAll enc Tryd.prog W 0 (fun _ => true) true Tryd.f3.params.toList args.toList ds p := hA0
  have hval : ∀ (j : Nat) t v, Tryd.f3.params[j]? = some t → args[j]? = some v → Value.okWide Tryd.prog W .any base t v := hval
  rw [Tryd.params3] at hA hval
  obtain ⟨v0, vs0, d0, ds0, p0, q0, hargs, rfl, rfl, h0, r0⟩ := trodAll_cons hA
  obtain ⟨v1, vs1, d1, ds1, p1, q1, rfl, rfl, rfl, h1, r1⟩ := trodAll_cons r0
  obtain ⟨v2, vs2, d2, ds2, p2, q2, rfl, rfl, rfl, h2, r2⟩ := trodAll_cons r1
  obtain ⟨rfl, rfl, rfl⟩ := trodAll_nil r2
  obtain rfl : args = #[v0, v1, v2] := by cases args; simp_all
  obtain ⟨rfl, rfl⟩ := trodVars_none hV
  have hv0 := hval 0 22 v0 rfl rfl
  have hv1 := hval 1 23 v1 rfl rfl
  have hv2 := hval 2 22 v2 rfl rfl
  clear hval
  have hsz : (DataW.weightsEach Tryd.prog ([22, 23, 22] ++ Rows.sensorPartsSpec.plain.varTypes Tryd.prog) ([d0, d1, d2] ++ [])).all (· ≤ reachBytes) = true := by
    have e : Tryd.f3.params.toList = [22, 23, 22] := by rw [Tryd.params3]
    rw [← e]; exact hsz
  obtain ⟨xs, A, c, rfl, hx1, hxc, _, hx3⟩ := opens hv0 h0 (fun el sp e => sized_slice hsz (j := 0) (t := 22) rfl (by rw [e]; rfl) under22)
  obtain ⟨ys, D, c', rfl, hy1, _, hy2, hy3⟩ := opens hv2 h2 (fun el sp e => sized_slice hsz (j := 2) (t := 22) rfl (by rw [e]; rfl) under22)
  obtain ⟨z, rfl, _, _, _⟩ := open_int under23 hv1 h1
  refine (parts_true xs ys z hy2 hx1 hy1 A D c c' hxc W hT hx3 hy3 h0W).mono fun e W' ⟨he, hb⟩ => ?_
  subst he
  exact ⟨_, rfl, law_post laidOut (s := Rows.sensorPartsSpec) (tb := 4) rfl under4 (by
    intro t ht
    have : t = 22 ∨ t = 23 ∨ t = 22 := by simpa [Tryd.params3] using ht
    rcases this with rfl | rfl | rfl
    · exact ok22
    · exact ok23
    · exact ok22) rfl rfl hW' hb⟩

theorem said : Rows.SensorPartsSaid :=
  OpenClaim.holds_of_cond 3 Tryd.f3 rfl rfl rfl rfl rfl rfl rfl ⟨rfl, rfl, rfl, rfl, rfl⟩ rfl rfl rfl rfl rfl (by kernel_rfl) Tryd.func3 (by kernel_rfl)
    (of_decide_eq_true (by kernel_rfl)) (by unfold Func.isWrapper; first | (rw [if_pos (by decide +kernel)]; kernel_rfl) | (rw [if_neg (by decide +kernel)]; exact ⟨rfl, rfl⟩))
    (fun os started H enc _ F => by rw [OpenClaim.pre_eq_preRow]; exact lifted os started H enc F)

theorem plain (f : FuncId) (fn : Func) (hf : Tryd.pinned.checked.prog.funcNamed "reveille/reveillelaw11.SensorParts" = some f) (hfn : Tryd.pinned.checked.prog.funcs[f]? = some fn) :
    false = Tryd.pinned.checked.prog.looks [] ∧ ∀ (j : Nat) t, fn.params[j]? = some t → Tryd.pinned.checked.prog.wantsStandIn t = false := by
  obtain rfl : f = 3 := Option.some.inj ((show Tryd.prog.funcNamed "reveille/reveillelaw11.SensorParts" = some 3 by kernel_rfl).symm.trans hf) |>.symm
  obtain rfl : fn = Tryd.f3 := (Option.some.inj (Tryd.func3.symm.trans hfn)).symm
  refine ⟨by kernel_rfl, fun j t ht => ?_⟩
  rw [Tryd.params3] at ht
  have : t = 22 ∨ t = 23 ∨ t = 22 := by simpa using Array.mem_of_getElem? ht
  rcases this with rfl | rfl | rfl
  · exact (show Tryd.prog.wantsStandIn 22 = false by kernel_rfl)
  · exact (show Tryd.prog.wantsStandIn 23 = false by kernel_rfl)
  · exact (show Tryd.prog.wantsStandIn 22 = false by kernel_rfl)

theorem card : Rows.SensorPartsCardSaid :=
  Claim7.holds_tied_plain_at .later [] _ _ _ _ said (fun _ h => by cases h) (by kernel_rfl) (fun _ h => by cases h) sensorParts_row_tie rfl ⟨rfl, rfl⟩ (by kernel_rfl) rfl plain (by kernel_rfl)
end parts

namespace names
theorem laid_met (os : Os) : laidMet Tryd.prog Rows.sensorNamesRow.laid ((laidWorld os).forCall (fun _ _ => 0) ⟨#[], #[], []⟩).memory :=
  laidMet_of_run' 8 (by kernel_rfl) (by kernel_rfl)
theorem reads (os : Os) {H : Type} (enc : TypeId × Value → H) : ∃ places, DataW.whole enc Tryd.prog ((laidWorld os).forCall (fun _ _ => 0) ⟨#[], #[], []⟩).memory Tryd.f4.params.toList Rows.sensorNamesSpec.vars false (#[] : Array Value).toList 8 = some ([], [], places) :=
  ⟨[], by kernel_rfl⟩

set_option maxRecDepth 100000 in
theorem lifted (os : Os) (started : os.Started) (H : Type) (enc : TypeId × Value → H) (F : Stop.Interp) :
    ReturnsInHanded {} Tryd.checked os 4 .any ((OpenSpec.ofChange Rows.sensorNamesSpec).preRow enc Tryd.prog Tryd.f4 Rows.sensorNamesRow.domain false Rows.sensorNamesRow.laid) (((OpenSpec.ofChange Rows.sensorNamesSpec).at F).post enc Tryd.prog Tryd.f4 false true false false) := by
  obtain ⟨places, hx⟩ := reads os enc
  refine returnsInHanded_of_row (C := Tryd.checked) (s := OpenSpec.ofChange Rows.sensorNamesSpec) own started (by kernel_rfl) Tryd.func4
    (witness_row_at (enc := enc) (C := Tryd.checked) false (laidWorld os) #[] rfl (by kernel_rfl) (by kernel_rfl) (by kernel_rfl)
      (OpenSpec.preRow_of_cond 8 hx (by kernel_rfl) (fun k hk => by cases hk) (by kernel_rfl) (laid_met os))) ?_
  intro W base args ds gs before hval hW _ _ hsz hL _ _
  have hT := table hL
  have h0W : 0 < W.heap.size := World.block_lt_of_cell? W _ (hT 0 (by omega))
  have hW' := hW
  obtain ⟨p, q, hA0, hV, rfl, hfz, hnd⟩ := hW
  have hA : DataW.TrodAll enc Tryd.prog W 0 (fun _ => true) true Tryd.f4.params.toList args.toList ds p := hA0
  rw [Tryd.params4] at hA
  obtain ⟨ha, rfl, rfl⟩ := trodAll_nil hA
  obtain rfl : args = #[] := by cases args; simp_all
  obtain ⟨rfl, rfl⟩ := trodVars_none hV
  refine (names_true W hT h0W).mono fun e W' ⟨he, hb⟩ => ?_
  subst he
  exact ⟨_, rfl, law_post laidOut (s := Rows.sensorNamesSpec) (tb := 4) rfl under4 (by
    intro t ht
    rw [Tryd.params4] at ht
    cases ht) rfl rfl hW' hb⟩

theorem said : Rows.SensorNamesSaid :=
  OpenClaim.holds_of_cond 4 Tryd.f4 rfl rfl rfl rfl rfl rfl rfl ⟨rfl, rfl, rfl, rfl, rfl⟩ rfl rfl rfl rfl rfl (by kernel_rfl) Tryd.func4 (by kernel_rfl)
    (of_decide_eq_true (by kernel_rfl)) (by unfold Func.isWrapper; first | (rw [if_pos (by decide +kernel)]; kernel_rfl) | (rw [if_neg (by decide +kernel)]; exact ⟨rfl, rfl⟩))
    (fun os started H enc _ F => by rw [OpenClaim.pre_eq_preRow]; exact lifted os started H enc F)

theorem plain (f : FuncId) (fn : Func) (hf : Tryd.pinned.checked.prog.funcNamed "reveille/reveillelaw11.SensorNames" = some f) (hfn : Tryd.pinned.checked.prog.funcs[f]? = some fn) :
    false = Tryd.pinned.checked.prog.looks [] ∧ ∀ (j : Nat) t, fn.params[j]? = some t → Tryd.pinned.checked.prog.wantsStandIn t = false := by
  obtain rfl : f = 4 := Option.some.inj ((show Tryd.prog.funcNamed "reveille/reveillelaw11.SensorNames" = some 4 by kernel_rfl).symm.trans hf) |>.symm
  obtain rfl : fn = Tryd.f4 := (Option.some.inj (Tryd.func4.symm.trans hfn)).symm
  refine ⟨by kernel_rfl, fun j t ht => ?_⟩
  rw [Tryd.params4] at ht
  simp at ht

theorem card : Rows.SensorNamesCardSaid :=
  Claim7.holds_tied_plain_at .later [] _ _ _ _ said (fun _ h => by cases h) (by kernel_rfl) (fun _ h => by cases h) sensorNames_row_tie rfl ⟨rfl, rfl⟩ (by kernel_rfl) rfl plain (by kernel_rfl)
end names
end Go.Proofs.YtgllkknleombjaaDoor.sensor

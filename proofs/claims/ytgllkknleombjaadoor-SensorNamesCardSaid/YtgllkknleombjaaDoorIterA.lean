/- The library's sort at int8, put together; slices.Values, AppendSeq, Collect, Sorted at int8: what is handed back is a new slice, sorted. -/
import Derived.Test.YtgllkknleombjaaDoorSoWalk13
import Derived.Test.YtgllkknleombjaaDoorSoWalk7
import Derived.Test.YtgllkknleombjaaDoorSoWalk11
import Derived.Test.YtgllkknleombjaaDoorSoWalkA6
import Derived.Test.YtgllkknleombjaaDoorSoWalkC4
import Derived.Test.YtgllkknleombjaaDoorSoWalkANil
import Derived.Sort.AssemblyPlain
import Derived.Sort.OwnSorted
import Derived.RangeFuncFrom
import Derived.RangeFuncBound
import Derived.RangeFuncBox
import Derived.RangeFuncCalls
import Derived.RangeFuncLeaves
import Derived.Maps.AppendAt
import Derived.Shelf.Abstract
import Derived.Shelf.RegionOpen
import Derived.WalkKit
import Derived.OwnWalkIn
import Derived.TacticsInMore
import Derived.LoopNIn
import Derived.LoopIn
import Derived.Lib.Hide
namespace Go.Proofs.YtgllkknleombjaaDoor
open Go.RowKit Go.Shelf Go.Sort

attribute [local go_sem] Oper.semAt_some

/-! A row of the call's own, sorted in place: at whatever encoding of its elements. -/
section
variable {w : World} {g n cap : Nat} {cur : Array Value} {e : TypeId} {os : Array Obj} (f : Int → Value)
theorem holds_of_row {ss : List Int} (hb : w.heap[g]? = some (.cells cur e (0, 0))) (ht : cur.toList.take ss.length = ss.map f) : Holds f w g 0 ss.toArray := by
  intro j hj
  have hj : j < ss.length := by simpa using hj
  refine ⟨?_, by simp [World.frozen?, hb]⟩
  have h1 : cur[j]? = some (f ss[j]) := by
    rw [← Array.getElem?_toList, ← List.getElem?_take_of_lt hj, ht]
    simp [hj]
  simp only [World.cell?, hb, Nat.zero_add, h1]
  simp [hj]
theorem heap_of_sorted {fr : Nat × Nat} (d : Array Int) (hb : w.heap[g]? = some (.cells cur e fr)) : (grow (putRow f (Sort.ahead w n) g 0 d) os).heap[g]? = some (.cells (putCells f 0 d cur) e fr) := by
  have hg : g < w.heap.size := (Array.getElem?_eq_some_iff.1 hb).1
  rw [heap_grow_old _ _ (by simpa using hg)]
  simp [putRow, mapBlock, Sort.ahead, Array.getElem?_modify, hb, onCells]
theorem grown_of_sorted (d : Array Int) : w.grownBy (grow (putRow f (Sort.ahead w n) g 0 d) os) (some g) := by
  refine ⟨rfl, rfl, rfl, by simp, fun k hk hne => ?_⟩
  have hgk : g ≠ k := fun e => hne (by rw [e])
  rw [heap_grow_old _ _ (by simpa using hk)]
  simp [putRow, mapBlock, Sort.ahead, Array.getElem?_modify, hgk]
theorem owns_of_sorted {base m : Nat} {ts : List Int} (hl : ts.length = m) (hbase : base ≤ g) (hb : w.heap[g]? = some (.cells cur e (0, 0))) (h1 : m ≤ cap) (h2 : cap ≤ maxLen) (h3 : cur.size = cap * 1) :
    (grow (putRow f (Sort.ahead w n) g 0 ts.toArray) os).ownsRow base e 1 (.slice (some ⟨g, 0, none⟩) m cap) m (ts.map f) := by
  refine ⟨by simp [hl], .inr ⟨g, cap, _, rfl, hbase, heap_of_sorted f _ hb, h1, h2, by simp [putCells, h3], ?_⟩⟩
  rw [Nat.mul_one]
  apply List.ext_getElem?
  intro j
  by_cases hj : j < m
  · rw [List.getElem?_take_of_lt hj, Array.getElem?_toList]
    simp [putCells, show j < ts.length by omega, show j < cur.size by omega]
  · rw [List.getElem?_take_eq_none (by omega), List.getElem?_eq_none (by simp; omega)]
end

theorem so_callees13 : Callees13 where
  ins := so_insertionSort
  brk := so_breakPatterns
  piv := so_choosePivot
  par := so_partialInsertionSort
  peq := so_partitionEqualOrdered
  prt := so_partitionOrdered

theorem so_plain13 : Plain13 where
  swo := swo_ltInt
  ins := insertionSort_holds
  par := partialInsertionSort_holds
  prt := partition_holds _
  peq := partitionEqual_holds _
  pdq := pdq_sorts _

theorem so_pdqWalk : pdqWalk_int := fun blk off cap a b limit d w hH hb hab hbd hsz hl hB =>
  so_pdqsort so_callees13 so_plain13 (b - a + 1) blk off cap a b limit d w (by omega) hH hb hab hbd hsz hl hB

/-- A list, sorted. -/
def up (zs : List Int) : List Int := zs.mergeSort fun x y => decide (x ≤ y)

theorem up_eq (zs : List Int) : Sort.sort ltInt zs.toArray = (up zs).toArray := by unfold up; rw [← sortInt zs]

theorem sort_some (blk off cap : Nat) (zs : List Int) (w : World) (hH : Holds (Value.int .i8) w blk off zs.toArray) (hblk : blk < w.heap.size) (hsz : zs.length < 4611686018427387904) :
    Calls Tryd.prog 15 #[.slice (some ⟨blk, off, none⟩) zs.length cap] w fun e w' =>
      e = .returned (.tuple #[]) ∧ ∃ n os, w' = grow (putRow (Value.int .i8) (Sort.ahead w n) blk off (up zs).toArray) os := by
  have h := so_Sort so_pdqWalk blk off cap zs.toArray w hH hblk (by simpa using hsz)
  rw [up_eq] at h
  simpa using h

/-- The numbers of a slice, read below block n₀. -/
def Holds8 (W : World) (n₀ : Nat) (A : Option Addr) (zs : List Int) : Prop :=
  0 < zs.length → ∃ ad, A = some ad ∧ ad.block < n₀ ∧ ∀ j, j < zs.length → W.cell? (ad.add j) = some (.int .i8 (zs.getD j 0))

theorem addblk (a : Addr) (n : Nat) : (a.add n).block = a.block := by unfold Addr.add; split <;> rfl

theorem Holds8.below {n₀ : Nat} {W W' : World} {A : Option Addr} {zs : List Int} (h : Holds8 W n₀ A zs) (hb : Below n₀ W W') : Holds8 W' n₀ A zs := fun hn => by
  obtain ⟨ad, e, h1, h2⟩ := h hn
  exact ⟨ad, e, h1, fun j hj => (hb.cell (by rw [addblk]; exact h1)).trans (h2 j hj)⟩
theorem Holds8.keep {n₀ : Nat} {W W' : World} {A : Option Addr} {zs : List Int} (h : Holds8 W n₀ A zs) (hk : ∀ p : Addr, p.block < n₀ → W'.cell? p = W.cell? p) : Holds8 W' n₀ A zs := fun hn => by
  obtain ⟨ad, e, h1, h2⟩ := h hn
  exact ⟨ad, e, h1, fun j hj => (hk _ (by rw [addblk]; exact h1)).trans (h2 j hj)⟩

theorem take_step (zs : List Int) {k : Nat} (hk : k < zs.length) : zs.take k ++ [zs.getD k 0] = zs.take (k + 1) := by
  rw [List.take_succ_eq_append_getElem hk, List.getD_eq_getElem?_getD, List.getElem?_eq_getElem hk, Option.getD_some]

set_option maxRecDepth 100000 in
set_option maxHeartbeats 2000000 in
/-- slices.Values's closure. -/
theorem values1_in (F : Fence) (n : Nat) (h7 : F.fn 16) (hro : F.round = none) (hn : 1 ≤ n) (l Bs n₀ cap : Nat) (A : Option Addr) (zs : List Int) (hz : zs.length ≤ 9223372036854775807) (J Jx : List Int → World → Prop)
    (hY : ∀ pre x W, J pre W → pre.length < zs.length → YieldAt F (n - 1) Tryd.prog l #[.int .i8 x] W fun e W' =>
      (e = .returned (.bool true) ∧ J (pre ++ [x]) W' ∧ Below n₀ W W') ∨ (e = .returned (.bool false) ∧ Jx (pre ++ [x]) W'))
    (W : World) (hBs : W.cell? ⟨Bs, 0, none⟩ = some (.slice A zs.length cap)) (hc : Holds8 W n₀ A zs) (h0 : J [] W) :
    CallsIn F n Tryd.prog 16 #[.func (.yield l) #[] #[], .pointer (some ⟨Bs, 0, none⟩)] W fun e W' => (∃ v, e = .returned v) ∧
      ((∃ ys, ys = zs ∧ J ys W') ∨ (∃ pre, (∃ k, k ≤ zs.length ∧ pre = zs.take k) ∧ Jx pre W')) := by
  obtain ⟨m, hm⟩ : ∃ m, m = zs.length := ⟨_, rfl⟩
  rw [← hm] at hBs hz
  have Hm := Lib.hid hm
  clear hm
  refine callsIn_of_wp Tryd.func16 rfl h7 ?_ hro
  simp only [Tryd.ntmps16, List.size_toArray, List.length_cons, List.length_nil, Nat.reduceAdd, Nat.reduceSub, Array.replicate_succ, Array.replicate_zero, List.push_toArray, List.append_toArray, List.nil_append, List.cons_append]
  gi_wp2
  gi_loopw [7] (fun i wr => ∃ k : Nat, k ≤ m ∧ i = .int .i64 k ∧ J (zs.take k) wr ∧ Below n₀ W wr)
    (fun i _ => m - (intOf i).toNat)
  case atStart => exact ⟨0, Nat.zero_le _, rfl, h0, Below.refl _ _⟩
  case round =>
    obtain ⟨k, hk, rfl, hJs, hnx⟩ := hrel
    by_cases hlt : k < m
    · obtain ⟨ad, rfl, _, hcs⟩ := (hc.below hnx) (by have := Hm.out; omega)
      have hcx' := hcs k (by have := Hm.out; omega)
      obtain ⟨fn, tmps, assign, body, hy, hR⟩ := hY _ (zs.getD k 0) wr hJs (by have := Hm.out; rw [List.length_take]; omega)
      obtain ⟨x, hx⟩ : ∃ x, x = zs.getD k 0 := ⟨_, rfl⟩
      have hts0 := take_step zs (k := k) (by have := Hm.out; omega)
      rw [← hx] at hcx' hts0 hy hR
      have hts := Lib.hid hts0
      clear hts0 hx
      have Hc := Lib.hid hc
      clear hcs hc
      gi_wp2
      refine hR.mono ?_
      rintro e W3 (⟨rfl, hJ3, hk3⟩ | ⟨rfl, hJx3⟩)
      · gi_wp2
        go_roundw
        case rel => exact ⟨k + 1, by omega, by simp, by rw [← hts.out]; exact hJ3, hnx.trans hk3⟩
        case measure => simp [intOf]; omega
      · gi_wp2
        refine bodyPost_ret (results_none rfl _ _ _) rfl ?_
        exact ⟨⟨_, rfl⟩, .inr ⟨_, ⟨k + 1, by have := Hm.out; omega, hts.out⟩, hJx3⟩⟩
    · obtain rfl : k = m := by omega
      gi_wp2
      go_end0
      exact ⟨⟨_, rfl⟩, .inl ⟨_, by rw [Hm.out, List.take_length], hJs⟩⟩

theorem values_stops (F : Fence) (n : Nat) (h7 : F.fn 16) (hro : F.round = none) (hn : 1 ≤ n) (Bs n₀ cap : Nat) (A : Option Addr) (zs : List Int) (hz : zs.length ≤ 9223372036854775807) (w : World) (hBs : Bs < w.heap.size) (hn₀ : n₀ ≤ w.heap.size)
    (hc : w.cell? ⟨Bs, 0, none⟩ = some (.slice A zs.length cap)) (hI : Holds8 w n₀ A zs) :
    SeqStopsK F n Tryd.prog 16 #[.pointer (some ⟨Bs, 0, none⟩)] (fun x : Int => #[Value.int .i8 x]) (Below n₀) (fun ys => ys = zs) (fun pre => pre <+: zs) zs.length w := fun l J Jx W hW _ _ hY h0 => by
  have hc' := (hW.cell (p := ⟨Bs, 0, none⟩) hBs).trans hc
  refine (values1_in F n h7 hro hn l Bs n₀ cap A zs hz J Jx hY W hc' (hI.below (hW.mono hn₀)) h0).mono ?_
  rintro e W' ⟨he, ⟨ys, rfl, hj⟩ | ⟨pre, ⟨k, hk, rfl⟩, hj⟩⟩
  · exact ⟨he, .inl ⟨_, rfl, hj⟩⟩
  · exact ⟨he, .inr ⟨_, List.take_prefix _ _, hj⟩⟩

theorem info23 : (Tryd.prog.info? 23).map (fun i => (i.zero, i.size, i.bytes)) = some (some (.int .i8 0), 1, 1) := by kernel_rfl
theorem under22 : Tryd.prog.underlying 22 = some (.slice 23) := by kernel_rfl

set_option maxRecDepth 100000 in
set_option maxHeartbeats 2000000 in
theorem appendSeq_in (F : Fence) (n : Nat) (hA : F.fn 17) (hV : F.fn 16) (hro : F.round = none) (hn : 2 ≤ n) (Bs cap : Nat) (A : Option Addr) (zs : List Int) (hz : zs.length ≤ 1048576) (w : World) (hBs : Bs < w.heap.size)
    (hc : w.cell? ⟨Bs, 0, none⟩ = some (.slice A zs.length cap)) (hI : Holds8 w w.heap.size A zs) :
    CallsIn F n Tryd.prog 17 #[.slice none 0 0, .func (.func 16) #[] #[.pointer (some ⟨Bs, 0, none⟩)]] w fun e w' =>
      ∃ v, e = .returned v ∧ w'.ownsRow w.heap.size 23 1 v zs.length (zs.map (Value.int .i8)) ∧ Below w.heap.size w w' := by
  have h1 : 1 ≤ n := by omega
  obtain ⟨i0, hi, hz0, hz1, hz2⟩ := info_parts info23
  refine callsIn_of_wp_marks Tryd.func17 rfl hA ?_ hro
  simp only [Tryd.ntmps17, List.size_toArray, List.length_cons, List.length_nil, Nat.reduceAdd, Nat.reduceSub, Array.replicate_succ, Array.replicate_zero, List.push_toArray, List.append_toArray, List.nil_append, List.cons_append]
  gi_wp2
  obtain ⟨W0, hW0⟩ : ∃ W0, w.alloc (.cells #[.slice none 0 0] 22) = W0 := ⟨_, rfl⟩
  have hs0 : W0.heap.size = w.heap.size + 1 := by rw [← hW0]; simp
  have hbox0 : Boxed W0 w.heap.size 22 (.slice none 0 0) := by rw [← hW0]; exact Boxed.new w 22 _
  have hb0 : Below w.heap.size w W0 := by rw [← hW0]; exact (Below.refl _ w).alloc (Nat.le_refl _) _
  rw [hW0]
  have hseq := values_stops F (n - 1) hV hro (by omega) Bs w.heap.size cap A zs (by omega) W0 (by omega) (by omega) ((hb0.cell (p := ⟨Bs, 0, none⟩) hBs).trans hc) (hI.below hb0)
  have hOwn : OwnFrom W0.heap.size (fun (pre : List Int) W => (∃ v, Boxed W w.heap.size 22 v ∧ W.ownsRow w.heap.size 23 1 v pre.length (pre.map (Value.int .i8)) ∧ True) ∧ Below w.heap.size w W) :=
    OwnFrom.and (Own.from (holdsRow_own w.heap.size w.heap.size 22 23 1 (fun (pre : List Int) => pre.length) (fun pre => pre.map (Value.int .i8)) (fun _ _ => True)) _) (ownFrom_below (Nat.le_refl _) (by omega))
  refine wpIn_rangeFunc_ownF hro h1 (gf := 16) (lb := #[.pointer (some ⟨Bs, 0, none⟩)]) rfl hV (enters_of Tryd.func16 (by kernel_rfl) rfl) hseq belowK_t (belowK_b (by omega)) (Below.refl _ _) (fun _ => rfl)
    (fun (pre : List Int) W => (∃ v, Boxed W w.heap.size 22 v ∧ W.ownsRow w.heap.size 23 1 v pre.length (pre.map (Value.int .i8)) ∧ True) ∧ Below w.heap.size w W)
    (fun _ _ _ => False) hOwn (fun _ _ _ _ _ h _ _ => h) ⟨⟨_, hbox0, World.ownsRow_nil _ _ _ _, trivial⟩, hb0⟩
    (fun x => { tmps := #[.slice none 0 0, .func (.func 16) #[] #[.pointer (some ⟨Bs, 0, none⟩)], .pointer (some ⟨w.heap.size, 0, none⟩), undef, .slice none 0 0, .int .i8 x, .func (.func 16) #[] #[.pointer (some ⟨Bs, 0, none⟩)], .int .i8 x, undef, undef, undef, undef, undef], defers := [] }) ?assign ?body ?done ?stop
  case assign => intro l x W K hK; gi_wp2; exact hK
  case body =>
    rintro l pre x W ⟨⟨v, hv, hrow, _⟩, hB⟩ hlen
    have hvc := hv.cell
    gi_wp2_with (gi_at_builtin; refine wpListIn_append_own _ rfl _ _ 22 rfl w.heap.size 23 i0 (.int .i8 0) 1 1 under22 hi hz0 hz1 hz2 rfl (by decide) _ _ _ rfl (hrow.alloc _) ⟨W.heap.size, 0, none⟩ 1 1 [.int .i8 x] rfl rfl (cell_one_new _ _ _) (by simp [Value.oneCell']) (by unfold maxLen; omega) (by omega) (by have := hB.size; simp; omega) ?_; intro v' w1 hown' hgrow _; obtain ⟨g', cap', rfl⟩ := ownsRow_succ hown'; obtain ⟨hv1, hv2, hr2, hk2, hb2⟩ := hv.appended (by decide) hrow hB.size (Nat.le_refl _) hown' hgrow; have hc1 := hv1.cell; have hf1 := hv1.frozen)
    exact ⟨hk2, hb2, ⟨_, hv2, by simpa using hr2, trivial⟩, hB.trans hb2⟩
  case done =>
    rintro D ys W hD rfl ⟨⟨v, hv, hrow, _⟩, hB⟩ hK
    have hvc := hv.cell
    gi_wp2
    refine ⟨by simp, .inl ⟨_, _, rfl, run_takeDeferred hK, ?_⟩⟩
    refine ⟨_, results_tmp rfl _ _ _, v, rfl, hrow.kept (grownBy_putObj' _ _ _) ?_, hB.trans (belowK_b (w := w) (Nat.le_refl _) W D _ _ (by omega) hK rfl rfl)⟩
    rcases hrow.2 with ⟨rfl, _⟩ | ⟨g, cap, cur, rfl, hb, hgb, _⟩
    · exact .inl rfl
    · refine .inr fun e => ?_
      obtain rfl : g = D := by simpa [Value.ownBlock] using e
      rw [hgb] at hK; cases hK
  case stop => rintro D c pre W hD _ hF _; exact hF.elim

set_option maxHeartbeats 1000000 in
theorem collect_in (F : Fence) (n : Nat) (hC : F.fn 14) (hA : F.fn 17) (hV : F.fn 16) (hro : F.round = none) (hn : 3 ≤ n) (Bs cap : Nat) (A : Option Addr) (zs : List Int) (hz : zs.length ≤ 1048576) (w : World) (hBs : Bs < w.heap.size)
    (hc : w.cell? ⟨Bs, 0, none⟩ = some (.slice A zs.length cap)) (hI : Holds8 w w.heap.size A zs) :
    CallsIn F n Tryd.prog 14 #[.func (.func 16) #[] #[.pointer (some ⟨Bs, 0, none⟩)]] w fun e w' =>
      ∃ v, e = .returned v ∧ w'.ownsRow w.heap.size 23 1 v zs.length (zs.map (Value.int .i8)) ∧ Below w.heap.size w w' := by
  have h1 : 1 ≤ n := by omega
  refine callsIn_of_wp Tryd.func14 rfl hC ?_ hro
  simp only [Tryd.ntmps14, List.size_toArray, List.length_cons, List.length_nil, Nat.reduceAdd, Nat.reduceSub, Array.replicate_succ, Array.replicate_zero, List.push_toArray, List.append_toArray, List.nil_append, List.cons_append]
  gi_wp2_with (gi_at_call 17; refine (appendSeq_in F (n - 1) hA hV hro (by omega) Bs cap A zs hz w hBs hc hI).mono ?_; rintro e w' ⟨v, rfl, hrow, hb⟩)
  go_ret
  exact ⟨v, rfl, hrow, hb⟩

/-- slices.Sorted(slices.Values(l)), behind the call of slices.Values. -/
theorem sorted_does (Bs cap : Nat) (A : Option Addr) (zs : List Int) (hz : zs.length ≤ 1048576) (w : World) (hBs : Bs < w.heap.size)
    (hc : w.cell? ⟨Bs, 0, none⟩ = some (.slice A zs.length cap)) (hI : Holds8 w w.heap.size A zs) (hpos : 0 < zs.length) :
    Calls Tryd.prog 11 #[.func (.func 16) #[] #[.pointer (some ⟨Bs, 0, none⟩)]] w fun e w' =>
      ∃ g cap, e = .returned (.slice (some ⟨g, 0, none⟩) zs.length cap) ∧ w'.ownsRow w.heap.size 23 1 (.slice (some ⟨g, 0, none⟩) zs.length cap) zs.length ((up zs).map (Value.int .i8)) ∧ Below w.heap.size w w' := by
  have cC := callsIn_wide.1 (collect_in Fence.wide 3 trivial trivial trivial rfl (by omega) Bs cap A zs hz w hBs hc hI)
  obtain ⟨m, hm⟩ : ∃ m, m = zs.length := ⟨_, rfl⟩
  rw [← hm] at cC ⊢
  have Hm := Lib.hid hm
  clear hm
  go_enter Tryd.func11, Tryd.ntmps11
  go_wp2_with (go_at_call 14; refine cC.mono ?_; rintro e W ⟨v, rfl, hrow, hb⟩)
  rcases hrow.2 with ⟨rfl, hz0⟩ | ⟨gb, cap, cur, rfl, hbase, hgb, r1, r2, r3, r4⟩
  · have := Hm.out; omega
  · have hH : Holds (Value.int .i8) W gb 0 zs.toArray := holds_of_row _ hgb (by simpa [Hm.out] using r4)
    have hgl : gb < W.heap.size := (Array.getElem?_eq_some_iff.1 hgb).1
    have cS := sort_some gb 0 cap zs W hH hgl (by omega)
    rw [← Hm.out] at cS
    go_wp2_with (go_at_call 15; refine cS.mono ?_; rintro e w' ⟨rfl, nn, os, rfl⟩)
    go_ret
    have hup : (up zs).length = m := by rw [Hm.out]; simp [up]
    exact ⟨gb, cap, rfl, owns_of_sorted _ hup hbase hgb r1 r2 r3, hb.grown (grown_of_sorted _ _) hb.size (fun j hj => by cases hj; exact hbase)⟩
end Go.Proofs.YtgllkknleombjaaDoor

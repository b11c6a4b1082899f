/- Zone and Median, plainly: which marks are reached; the middle one of a sorted list is the least than which at least half are no greater. The program's Zone and Median. -/
import Derived.Test.YtgllkknleombjaaDoorIterA
import Derived.Test.YtgllkknleombjaaDoorMemA
import Derived.Deep.QuietTactic
import Derived.BigQuiet
import Derived.Deep.Draws
import Derived.Laws.OwnMore
namespace Go.Proofs.YtgllkknleombjaaDoor
open Go.RowKit Go.Sort


def climbs (zs : List Int) (k : Nat) : Prop := ∀ i, 0 < i → i < k → zs.getD (i - 1) 0 < zs.getD i 0
/-- How many of the first k are at most d. -/
def cnt (zs : List Int) (d : Int) (k : Nat) : Nat := (zs.take k).countP fun x => decide (x ≤ d)

theorem cnt_succ (zs : List Int) (d : Int) {k : Nat} (hk : k < zs.length) : cnt zs d (k + 1) = cnt zs d k + if zs.getD k 0 ≤ d then 1 else 0 := by
  unfold cnt
  rw [← take_step zs hk, List.countP_append]
  congr 1
  by_cases h : zs.getD k 0 ≤ d <;> simp [List.countP_cons, h] <;> simpa [List.getD] using h
theorem cnt_le (zs : List Int) (d : Int) (k : Nat) : cnt zs d k ≤ k := by
  unfold cnt
  exact Nat.le_trans List.countP_le_length (List.length_take_le _ _)

open Classical in
noncomputable def zoneE (zs : List Int) : Int := if zs.length ≤ 64 ∧ climbs zs zs.length then 0 else 1
open Classical in
noncomputable def zoneV (zs : List Int) (d : Int) : Int := if zs.length ≤ 64 ∧ climbs zs zs.length then (cnt zs d zs.length : Nat) else 0
theorem zone_yes {zs : List Int} (d : Int) (h : zs.length ≤ 64) (h2 : climbs zs zs.length) : zoneV zs d = (cnt zs d zs.length : Nat) ∧ zoneE zs = 0 := by simp [zoneV, zoneE, h, h2]
theorem zone_no {zs : List Int} (d : Int) (h : ¬ (zs.length ≤ 64 ∧ climbs zs zs.length)) : zoneV zs d = 0 ∧ zoneE zs = 1 := by simp only [zoneV, zoneE, if_neg h]; exact ⟨trivial, trivial⟩

/-- What both Zones answer. -/
def Zoned (e : Ending) (zs : List Int) (d : Int) : Prop := e = .returned (.tuple #[.int .i64 (zoneV zs d), .int .i64 (zoneE zs)])
theorem zoned_yes {zs : List Int} {d : Int} (h : zs.length ≤ 64) (h2 : climbs zs zs.length) : Zoned (.returned (.tuple #[.int .i64 (cnt zs d zs.length : Nat), .int .i64 0])) zs d := by
  unfold Zoned; rw [(zone_yes d h h2).1, (zone_yes d h h2).2]
theorem zoned_no {zs : List Int} {d : Int} (h : ¬ (zs.length ≤ 64 ∧ climbs zs zs.length)) : Zoned (.returned (.tuple #[.int .i64 0, .int .i64 1])) zs d := by
  unfold Zoned; rw [(zone_no d h).1, (zone_no d h).2]

def medE (zs : List Int) : Int := if 0 < zs.length ∧ zs.length ≤ 4096 then 0 else 1
def medV (zs : List Int) : Int := if 0 < zs.length ∧ zs.length ≤ 4096 then (up zs).getD ((zs.length - 1) / 2) 0 else 0

theorem up_perm (zs : List Int) : (up zs).Perm zs := List.mergeSort_perm _ _
theorem up_len (zs : List Int) : (up zs).length = zs.length := (up_perm zs).length_eq
theorem up_sorted (zs : List Int) {i j : Nat} (hij : i ≤ j) (hj : j < zs.length) : (up zs).getD i 0 ≤ (up zs).getD j 0 := by
  have h : (up zs).Pairwise fun x y => decide (x ≤ y) = true := List.pairwise_mergeSort (fun a b c h1 h2 => by simp at h1 h2 ⊢; omega) (fun a b => by simp; omega) zs
  have hl := up_len zs
  rcases Nat.eq_or_lt_of_le hij with rfl | hlt
  · exact Int.le_refl _
  · have := (List.pairwise_iff_getElem.1 h) i j (by omega) (by omega) hlt
    rw [List.getD_eq_getElem?_getD, List.getD_eq_getElem?_getD, List.getElem?_eq_getElem (by omega), List.getElem?_eq_getElem (by omega)]
    simpa using this

theorem cnt_up (zs : List Int) (d : Int) : (up zs).countP (fun x => decide (x ≤ d)) = cnt zs d zs.length := by
  unfold cnt; rw [List.take_length]; exact (up_perm zs).countP_eq _

theorem countP_take_all {l : List Int} {p : Int → Bool} {k : Nat} (hk : k ≤ l.length) (h : ∀ i, i < k → p (l.getD i 0) = true) : k ≤ l.countP p := by
  have h1 : (l.take k).countP p = (l.take k).length := List.countP_eq_length.2 fun a ha => by
    obtain ⟨i, hi, rfl⟩ := List.mem_iff_getElem.1 ha
    rw [List.length_take] at hi
    have := h i (by omega)
    rw [List.getD_eq_getElem?_getD, List.getElem?_eq_getElem (by omega)] at this
    simpa using this
  have h2 := (List.take_sublist k l).countP_le (p := p)
  rw [h1, List.length_take] at h2
  omega
theorem countP_drop_none {l : List Int} {p : Int → Bool} {k : Nat} (h : ∀ i, k ≤ i → i < l.length → p (l.getD i 0) = false) : l.countP p ≤ k := by
  have e : l.countP p = (l.take k).countP p + (l.drop k).countP p := by rw [← List.countP_append, List.take_append_drop]
  have h0 : (l.drop k).countP p = 0 := List.countP_eq_zero.2 fun a ha => by
    obtain ⟨i, hi, rfl⟩ := List.mem_iff_getElem.1 ha
    rw [List.length_drop] at hi
    have := h (k + i) (by omega) (by omega)
    rw [List.getD_eq_getElem?_getD, List.getElem?_eq_getElem (by omega)] at this
    simpa using this
  have h1 : (l.take k).countP p ≤ (l.take k).length := List.countP_le_length
  rw [List.length_take] at h1
  omega

/-- At least half are no greater than the middle one; of anything less that does not hold. -/
theorem med_half (zs : List Int) (h0 : 0 < zs.length) {m : Int} (hm : m = (up zs).getD ((zs.length - 1) / 2) 0) : zs.length ≤ 2 * cnt zs m zs.length ∧ ∀ d, d < m → 2 * cnt zs d zs.length < zs.length := by
  have hl := up_len zs
  have hk : (zs.length - 1) / 2 < zs.length := by omega
  constructor
  · have := countP_take_all (l := up zs) (p := fun x => decide (x ≤ m)) (k := (zs.length - 1) / 2 + 1) (by omega) (fun i hi => by
      have := up_sorted zs (i := i) (j := (zs.length - 1) / 2) (by omega) hk
      rw [hm]; simpa using this)
    rw [cnt_up] at this
    omega
  · intro d hd
    have := countP_drop_none (l := up zs) (p := fun x => decide (x ≤ d)) (k := (zs.length - 1) / 2) (fun i h1 h2 => by
      have := up_sorted zs (i := (zs.length - 1) / 2) (j := i) h1 (by omega)
      simp only [decide_eq_false_iff_not]
      omega)
    rw [cnt_up] at this
    omega

/-- The numbers are of eight bits. -/
def Small (zs : List Int) : Prop := ∀ k, -128 ≤ zs.getD k 0 ∧ zs.getD k 0 ≤ 127

theorem small_of_mem {zs : List Int} (h : ∀ x ∈ zs, -128 ≤ x ∧ x ≤ 127) : Small zs := fun k => by
  rw [List.getD_eq_getElem?_getD]
  by_cases hk : k < zs.length
  · rw [List.getElem?_eq_getElem hk]; exact h _ (List.getElem_mem hk)
  · rw [List.getElem?_eq_none (by omega)]; decide
theorem small_mem {zs : List Int} (h : Small zs) : ∀ x ∈ zs, -128 ≤ x ∧ x ≤ 127 := fun x hx => by
  obtain ⟨i, hi, rfl⟩ := List.mem_iff_getElem.1 hx
  have := h i
  rwa [List.getD_eq_getElem?_getD, List.getElem?_eq_getElem hi] at this
theorem med_small {zs : List Int} (h : Small zs) : -128 ≤ medV zs ∧ medV zs ≤ 127 := by
  unfold medV
  split
  · exact small_of_mem (fun x hx => small_mem h x ((up_perm zs).mem_iff.1 hx)) _
  · decide

set_option maxRecDepth 20000 in
set_option maxHeartbeats 1000000 in
theorem zone_does (zs : List Int) (d : Int) (A : Option Addr) (B c : Nat) (hz : zs.length ≤ 9223372036854775807) (w : World) (ha : Holds8 w B A zs) :
    Calls Tryd.prog 6 #[.slice A zs.length c, .int .i8 d] w fun e w' => Zoned e zs d ∧ ∃ q, w' = w.drewN q := by
  obtain ⟨n, hn⟩ : ∃ n, n = zs.length := ⟨_, rfl⟩
  have ha' := fun j (hj : j < n) => (ha (by omega))
  have hyes := zoned_yes (zs := zs) (d := d)
  have hno := zoned_no (zs := zs) (d := d)
  have hcs := fun k (hk : k < n) => cnt_succ zs d (hn ▸ hk)
  rw [← hn] at hz hyes hno ⊢
  have hread : ∀ j, j < n → ∃ ad, A = some ad ∧ ∀ i, i < n → w.cell? (ad.add i) = some (.int .i8 (zs.getD i 0)) := fun j hj => by
    obtain ⟨ad, e, _, h⟩ := ha' j hj
    exact ⟨ad, e, fun i hi => h i (by omega)⟩
  obtain ⟨z, hzf⟩ : ∃ z : Nat → Int, z = fun i => zs.getD i 0 := ⟨_, rfl⟩
  have hclb : ∀ k, climbs zs k ↔ ∀ i, 0 < i → i < k → z (i - 1) < z i := fun k => by rw [hzf]; rfl
  have hcs' : ∀ k, k < n → cnt zs d (k + 1) = cnt zs d k + if z k ≤ d then 1 else 0 := fun k hk => by rw [hzf]; exact hcs k hk
  have hread' : ∀ j, j < n → ∃ ad, A = some ad ∧ ∀ i, i < n → w.cell? (ad.add i) = some (.int .i8 (z i)) := fun j hj => by rw [hzf]; exact hread j hj
  clear ha' ha hcs hread hzf
  have Hyes := Lib.hid hyes
  have Hno := Lib.hid hno
  have Hc := Lib.hid hclb
  have Hs := Lib.hid hcs'
  have Hr := Lib.hid hread'
  clear hyes hno hclb hcs' hread' hn
  go_enter Tryd.func6, Tryd.ntmps6
  by_cases hbig : 64 < n
  · go_wp2
    go_ret2
    exact ⟨Hno.out (by omega), 0, rfl⟩
  go_wp2
  go_loopw [6, 7, 8, 14] (fun a _ _ i wr => ∃ k q : Nat, k ≤ n ∧ i = .int .i64 k ∧ a = .int .i64 (cnt zs d k : Nat) ∧ wr = w.drewN q ∧ climbs zs k) (fun _ _ _ i _ => n - (intOf i).toNat)
  case atStart => exact ⟨0, 0, Nat.zero_le _, rfl, rfl, rfl, fun i _ h => by omega⟩
  case round =>
    obtain ⟨k, q, hk, rfl, rfl, rfl, hcl⟩ := hrel
    have Hcl := Lib.hid hcl
    clear hcl
    by_cases hlt : k < n
    · obtain ⟨ad, rfl, hcell⟩ := Hr.out k hlt
      have hck := hcell k hlt
      have hcn := cnt_le zs d k
      have hs := Lib.hid (Hs.out k hlt)
      have hck' : ∀ q, (w.drewN q).cell? (ad.add k) = some (.int .i8 (z k)) := fun _ => hck
      obtain ⟨x, hx⟩ : ∃ x, x = z k := ⟨_, rfl⟩
      rw [← hx] at hck hck'
      have Hx := Lib.hid hx
      obtain ⟨C, hC⟩ : ∃ C, C = cnt zs d k := ⟨_, rfl⟩
      rw [← hC] at hcn ⊢
      have HC := Lib.hid hC
      clear hx hC
      by_cases h0 : 0 < k
      · have hcp := hcell (k - 1) (by omega)
        obtain ⟨y, hy⟩ : ∃ y, y = z (k - 1) := ⟨_, rfl⟩
        rw [← hy] at hcp
        have hcp' : ∀ q, (w.drewN q).cell? (ad.add (k - 1)) = some (.int .i8 y) := fun _ => hcp
        have Hy := Lib.hid hy
        have hk1 : ((k : Int) - 1).toNat = k - 1 := by omega
        clear hy hcell
        have hstep : y < x → climbs zs (k + 1) := fun h => (Hc.out _).2 fun i h1 h2 => by
          rcases Nat.lt_or_ge i k with h3 | h3
          · exact (Hc.out k).1 Hcl.out i h1 h3
          · obtain rfl : i = k := by omega
            rw [← Hy.out, ← Hx.out]; exact h
        have hbad : ¬ y < x → ¬ (n ≤ 64 ∧ climbs zs n) := fun h ⟨_, hc⟩ => h (by
          have := (Hc.out n).1 hc k h0 hlt
          rw [← Hy.out, ← Hx.out] at this; exact this)
        have Hstep := Lib.hid hstep
        have Hbad := Lib.hid hbad
        clear hstep hbad
        by_cases hxy : x ≤ y
        · go_wp2
          go_ret2
          exact ⟨Hno.out (Hbad.out (by omega)), q, rfl⟩
        · by_cases hxd : x ≤ d
          · go_wp2
            go_roundw
            case rel => exact ⟨k + 1, q, by omega, by go_num, by rw [hs.out, ← Hx.out, if_pos hxd, ← HC.out]; go_num, rfl, Hstep.out (by omega)⟩
            case measure => simp [intOf]; omega
          · go_wp2
            go_roundw
            case rel => exact ⟨k + 1, q, by omega, by go_num, by rw [hs.out, ← Hx.out, if_neg hxd, ← HC.out]; go_num, rfl, Hstep.out (by omega)⟩
            case measure => simp [intOf]; omega
      · obtain rfl : k = 0 := by omega
        rw [show ad.add 0 = ad by simp [Addr.add]] at hck hck'
        have hstep : climbs zs (0 + 1) := fun i h1 h2 => by omega
        have Hstep := Lib.hid hstep
        clear hstep hcell
        by_cases hxd : x ≤ d
        · go_wp2
          go_roundw
          case rel => exact ⟨0 + 1, q, by omega, by go_num, by rw [hs.out, ← Hx.out, if_pos hxd, ← HC.out]; go_num, rfl, Hstep.out⟩
          case measure => simp [intOf]; omega
        · go_wp2
          go_roundw
          case rel => exact ⟨0 + 1, q, by omega, by go_num, by rw [hs.out, ← Hx.out, if_neg hxd, ← HC.out]; go_num, rfl, Hstep.out⟩
          case measure => simp [intOf]; omega
    · obtain rfl : k = n := by omega
      go_wp2
      go_ret2
      exact ⟨Hyes.out (by omega) Hcl.out, q, rfl⟩

theorem values_does (a : Option Addr) (len cap : Nat) (w : World) :
    Calls Tryd.prog 12 #[.slice a len cap] w fun e w' => e = .returned (.func (.func 16) #[] #[.pointer (some ⟨w.heap.size, 0, none⟩)]) ∧ w' = w.alloc (.cells #[.slice a len cap] 22) := by
  go_enter Tryd.func12, Tryd.ntmps12
  go_wp2
  go_ret
  exact ⟨rfl, rfl⟩

theorem med_yes {zs : List Int} (h0 : 0 < zs.length) (h1 : zs.length ≤ 4096) : medV zs = (up zs).getD ((zs.length - 1) / 2) 0 ∧ medE zs = 0 := by simp only [medV, medE, if_pos (And.intro h0 h1)]; exact ⟨trivial, trivial⟩
theorem med_no {zs : List Int} (h : ¬ (0 < zs.length ∧ zs.length ≤ 4096)) : medV zs = 0 ∧ medE zs = 1 := by simp only [medV, medE, if_neg h]; exact ⟨trivial, trivial⟩

/-- What both Medians answer. -/
def Medians (e : Ending) (zs : List Int) : Prop := e = .returned (.tuple #[.int .i8 (medV zs), .int .i64 (medE zs)])
theorem medians_no {zs : List Int} (h : ¬ (0 < zs.length ∧ zs.length ≤ 4096)) : Medians (.returned (.tuple #[.int .i8 0, .int .i64 1])) zs := by unfold Medians; rw [(med_no h).1, (med_no h).2]
theorem medians_yes {zs : List Int} (h0 : 0 < zs.length) (h1 : zs.length ≤ 4096) {m : Int} (hm : m = (up zs).getD ((zs.length - 1) / 2) 0) : Medians (.returned (.tuple #[.int .i8 m, .int .i64 0])) zs := by unfold Medians; rw [(med_yes h0 h1).1, (med_yes h0 h1).2, hm]

set_option maxRecDepth 20000 in
set_option maxHeartbeats 1000000 in
theorem median_does (zs : List Int) (A : Option Addr) (c : Nat) (hz : zs.length ≤ 9223372036854775807) (w : World) (ha : Holds8 w w.heap.size A zs) :
    Calls Tryd.prog 7 #[.slice A zs.length c] w fun e w' => Medians e zs ∧ Below w.heap.size w w' := by
  have hno := medians_no (zs := zs)
  have Hno := Lib.hid hno
  clear hno
  by_cases h0 : 0 < zs.length
  · by_cases h1 : zs.length ≤ 4096
    · have hyes := fun m => medians_yes (zs := zs) h0 h1 (m := m)
      have hul := up_len zs
      have cV := values_does A zs.length c w
      have hb : Below w.heap.size w (w.alloc (.cells #[.slice A zs.length c] 22)) := (Below.refl _ w).alloc (Nat.le_refl _) _
      have cS := sorted_does w.heap.size c A zs (by omega) (w.alloc (.cells #[.slice A zs.length c] 22)) (by simp) (Boxed.new w 22 _).cell (fun h => by
        obtain ⟨ad, e, h1, h2⟩ := ha h
        exact ⟨ad, e, by simp; omega, fun j hj => (hb.cell (by rw [addblk]; exact h1)).trans (h2 j hj)⟩) h0
      obtain ⟨n, hn⟩ : ∃ n, n = zs.length := ⟨_, rfl⟩
      rw [← hn] at h0 h1 hz cV cS hb hul ⊢
      have Hyes := Lib.hid hyes
      have Hn := Lib.hid hn
      have Hb := Lib.hid hb
      have Hul := Lib.hid hul
      clear hyes hn hb hul
      have hn0 : ((n : Int) == 0) = false := by simpa using (show n ≠ 0 by omega)
      have hkk : ((n : Int) - 1) / 2 = (((n - 1) / 2 : Nat) : Int) := by omega
      go_enter Tryd.func7, Tryd.ntmps7
      go_wp2_with (first
        | (go_at_call 12; refine cV.mono ?_; rintro e w1 ⟨rfl, rfl⟩)
        | (go_at_call 11; refine cS.mono ?_; rintro e w2 ⟨g, cap, rfl, hrow, hb2⟩; have hcell : w2.cell? ⟨g, (n - 1) / 2, none⟩ = some (.int .i8 ((up zs).getD ((n - 1) / 2) 0)) := (by rw [hrow.cellAt _ (by omega), List.getElem?_map, List.getD_eq_getElem?_getD, List.getElem?_eq_getElem (by have := Hul.out; omega)]; rfl); obtain ⟨m, hm⟩ : ∃ m, m = (up zs).getD ((n - 1) / 2) 0 := ⟨_, rfl⟩; rw [← hm] at hcell; have Hm := Lib.hid hm; clear hm hkk))
      go_ret2
      refine ⟨Hyes.out m (by rw [Hm.out, Hn.out]), Hb.out.trans (hb2.mono (by simp))⟩
    · obtain ⟨n, hn⟩ : ∃ n, n = zs.length := ⟨_, rfl⟩
      rw [← hn] at h0 h1 Hno hz ⊢
      clear hn
      have hn0 : ((n : Int) == 0) = false := by simpa using (show n ≠ 0 by omega)
      have hn1 : (4096 : Int) < n := by omega
      go_enter Tryd.func7, Tryd.ntmps7
      go_wp2
      go_ret2
      exact ⟨Hno.out (by omega), Below.refl _ _⟩
  · have h00 : zs.length = 0 := by omega
    rw [h00] at Hno ⊢
    go_enter Tryd.func7, Tryd.ntmps7
    go_wp2
    go_ret2
    exact ⟨Hno.out (by omega), Below.refl _ _⟩
end Go.Proofs.YtgllkknleombjaaDoor

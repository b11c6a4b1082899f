/- The law SensorParts. -/
import Derived.Test.YtgllkknleombjaaDoorPartA
namespace Go.Proofs.YtgllkknleombjaaDoor
open Go.RowKit Go.Sort

def b8 (xs : List Int) : List Value := xs.map (Value.int .i8)
theorem b8_len (xs : List Int) : (b8 xs).length = xs.length := by simp [b8]
theorem b8_at {xs : List Int} {j : Nat} (hj : j < xs.length) : (b8 xs)[j]? = some (.int .i8 (xs.getD j 0)) := by
  unfold b8
  rw [List.getElem?_map, List.getElem?_eq_getElem hj, List.getD_eq_getElem?_getD, List.getElem?_eq_getElem hj]; rfl
theorem reads_holds {w : World} {B : Nat} {A : Option Addr} {zs : List Int} (h : Reads w B 1 A zs.length (b8 zs)) : Holds8 w B A zs := fun hn => by
  obtain ⟨ad, e, hb, hc⟩ := h.2 hn
  exact ⟨ad, e, hb, fun j hj => hc j _ (b8_at hj)⟩

theorem climbs_lt {zs : List Int} {n : Nat} (h : climbs zs n) {i k : Nat} (hik : i < k) (hk : k < n) : zs.getD i 0 < zs.getD k 0 := by
  induction k with
  | zero => omega
  | succ k ih =>
    have h1 := h (k + 1) (by omega) hk
    rw [Nat.add_sub_cancel] at h1
    rcases Nat.lt_or_ge i k with h2 | h2
    · have := ih h2 (by omega); omega
    · obtain rfl : i = k := by omega
      exact h1

/-- In marks that climb those that are reached stand in front. -/
theorem zone_front {zs : List Int} (d : Int) (h : climbs zs zs.length) : ∀ k, k ≤ zs.length → ∃ t, t ≤ k ∧ (∀ i, i < k → (zs.getD i 0 ≤ d ↔ i < t)) ∧ ∀ j, j ≤ k → cnt zs d j = min t j
  | 0, _ => ⟨0, Nat.le_refl _, fun i hi => absurd hi (Nat.not_lt_zero _), fun j hj => by have := cnt_le zs d j; omega⟩
  | k + 1, hk => by
    obtain ⟨t, h1, h2, h3⟩ := zone_front d h k (by omega)
    have hc := cnt_succ zs d (k := k) (by omega)
    by_cases hx : zs.getD k 0 ≤ d
    · have ht : t = k := by
        rcases Nat.eq_or_lt_of_le h1 with e | e
        · exact e
        · have := (h2 t e).1 (by have := climbs_lt h e (by omega); omega)
          omega
      subst ht
      refine ⟨t + 1, Nat.le_refl _, fun i hi => ?_, fun j hj => ?_⟩
      · by_cases hit : i < t
        · have := (h2 i hit).2 hit; omega
        · obtain rfl : i = t := by omega
          omega
      · rcases Nat.lt_or_ge j (t + 1) with hlt | hge
        · have := h3 j (by omega); omega
        · obtain rfl : j = t + 1 := by omega
          rw [hc, if_pos hx, h3 t (Nat.le_refl _)]; omega
    · refine ⟨t, by omega, fun i hi => ?_, fun j hj => ?_⟩
      · by_cases hik : i < k
        · exact h2 i hik
        · obtain rfl : i = k := by omega
          omega
      · rcases Nat.lt_or_ge j (k + 1) with hlt | hge
        · exact h3 j (by omega)
        · obtain rfl : j = k + 1 := by omega
          rw [hc, if_neg hx, h3 k (Nat.le_refl _)]; omega

theorem take_getD (zs : List Int) {k j : Nat} (hj : j < k) : (zs.take k).getD j 0 = zs.getD j 0 := by
  rw [List.getD_eq_getElem?_getD, List.getD_eq_getElem?_getD, List.getElem?_take_of_lt hj]
theorem climbs_take {zs : List Int} {k : Nat} (h : climbs zs zs.length) (hk : k ≤ zs.length) : climbs (zs.take k) (zs.take k).length := fun i h1 h2 => by
  rw [List.length_take] at h2
  rw [take_getD _ (by omega), take_getD _ (by omega)]
  exact h i h1 (by omega)

/-- What Zone answers of the marks ahead of the k-th. -/
theorem zone_take {zs : List Int} {d : Int} (h64 : zs.length ≤ 64) (h : climbs zs zs.length) {k : Nat} (hk : k ≤ zs.length) : zoneV (zs.take k) d = (cnt zs d k : Nat) ∧ zoneE (zs.take k) = 0 := by
  have hl : (zs.take k).length = k := by rw [List.length_take]; omega
  have := zone_yes (zs := zs.take k) d (by omega) (climbs_take h hk)
  rw [this.1, this.2, hl]
  refine ⟨?_, rfl⟩
  unfold cnt
  rw [List.take_take, Nat.min_self]

/-- How many of the first k are at least m. -/
def cntG (zs : List Int) (m : Int) (k : Nat) : Nat := (zs.take k).countP fun x => decide (m ≤ x)
theorem cntG_succ (zs : List Int) (m : Int) {k : Nat} (hk : k < zs.length) : cntG zs m (k + 1) = cntG zs m k + if m ≤ zs.getD k 0 then 1 else 0 := by
  unfold cntG
  rw [← take_step zs hk, List.countP_append]
  congr 1
  by_cases h : m ≤ zs.getD k 0 <;> simp [List.countP_cons, h] <;> simpa [List.getD] using h
theorem cntG_le (zs : List Int) (m : Int) (k : Nat) : cntG zs m k ≤ k := by
  unfold cntG
  exact Nat.le_trans List.countP_le_length (List.length_take_le _ _)

theorem countP_drop_all {l : List Int} {p : Int → Bool} {k : Nat} (h : ∀ i, k ≤ i → i < l.length → p (l.getD i 0) = true) : l.length - k ≤ l.countP p := by
  have e : (l.drop k).countP p = (l.drop k).length := List.countP_eq_length.2 fun a ha => by
    obtain ⟨i, hi, rfl⟩ := List.mem_iff_getElem.1 ha
    rw [List.length_drop] at hi
    have := h (k + i) (by omega) (by omega)
    rw [List.getD_eq_getElem?_getD, List.getElem?_eq_getElem (by omega)] at this
    simpa using this
  have h2 := (List.drop_sublist k l).countP_le (p := p)
  rw [e, List.length_drop] at h2
  exact h2

theorem med_high (zs : List Int) (h0 : 0 < zs.length) {m : Int} (hm : m = (up zs).getD ((zs.length - 1) / 2) 0) : zs.length ≤ 2 * cntG zs m zs.length := by
  have hl := up_len zs
  have := countP_drop_all (l := up zs) (p := fun x => decide (m ≤ x)) (k := (zs.length - 1) / 2) (fun i h1 h2 => by
    have := up_sorted zs (i := (zs.length - 1) / 2) (j := i) h1 (by omega)
    rw [hm]; simpa using this)
  have e : (up zs).countP (fun x => decide (m ≤ x)) = cntG zs m zs.length := by
    unfold cntG; rw [List.take_length]; exact (up_perm zs).countP_eq _
  rw [e, hl] at this
  omega

theorem med_unique {xs ys : List Int} (h0 : 0 < xs.length) (hl : ys.length = xs.length) (hp : ys.Perm xs) : (up ys).getD ((ys.length - 1) / 2) 0 = (up xs).getD ((xs.length - 1) / 2) 0 := by
  obtain ⟨a1, a2⟩ := med_half xs h0 rfl
  obtain ⟨b1, b2⟩ := med_half ys (by omega) rfl
  have e : ∀ d, cnt ys d ys.length = cnt xs d xs.length := fun d => by unfold cnt; rw [List.take_length, List.take_length]; exact hp.countP_eq _
  rcases Int.lt_trichotomy ((up ys).getD ((ys.length - 1) / 2) 0) ((up xs).getD ((xs.length - 1) / 2) 0) with h | h | h
  · have := a2 _ h; rw [e] at b1; omega
  · exact h
  · have := b2 _ h; rw [e] at this; omega

theorem rev_getD (l : List Int) {i : Nat} (hi : i < l.length) : l.reverse.getD i 0 = l.getD (l.length - 1 - i) 0 := by
  rw [List.getD_eq_getElem?_getD, List.getElem?_reverse hi, ← List.getD_eq_getElem?_getD]
theorem rev_take (l : List Int) {i : Nat} (hi : i < l.length) : l.reverse.take (i + 1) = l.reverse.take i ++ [l.getD (l.length - 1 - i) 0] := by
  rw [← rev_getD l hi, take_step l.reverse (by simpa using hi)]

theorem med_small' {zs : List Int} (h : Small zs) (h0 : 0 < zs.length) : -128 ≤ (up zs).getD ((zs.length - 1) / 2) 0 ∧ (up zs).getD ((zs.length - 1) / 2) 0 ≤ 127 :=
  small_of_mem (fun x hx => small_mem h x ((up_perm zs).mem_iff.1 hx)) _
end Go.Proofs.YtgllkknleombjaaDoor

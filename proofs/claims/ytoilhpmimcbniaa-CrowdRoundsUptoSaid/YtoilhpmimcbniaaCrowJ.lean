/- The rounds, plainly: no program in sight. -/
import Derived.Test.YtoilhpmimcbniaaCrowI
import Derived.Test.YtoilhpmimcbniaaCrowG
namespace Go.Proofs.Ytoilhpmimcbniaa

section
variable (xss : List (List Int)) (n : Nat) (bad : Nat → Bool)

/-- How many of those that k needs are not bound. -/
def lackOf (st : Nat → Int) (k : Nat) : Nat := (row xss k).countP fun u => st u.toNat != 1
def isNow (st : Nat → Int) (k : Nat) : Bool := st k == 0 && lackOf xss st k == 0
def nowL (st : Nat → Int) : List Int := those (isNow xss st) n
def how (k : Nat) : Int := if bad k then 2 else 1
def nxt (st : Nat → Int) : Nat → Int := fun k => if (k : Int) ∈ nowL xss n st then how bad k else st k
def part (st : Nat → Int) (j : Nat) : Nat → Int := fun k => if (k : Int) ∈ (nowL xss n st).take j then how bad k else st k
/-- The states behind r rounds. -/
def S : Nat → Nat → Int
  | 0 => fun _ => 0
  | r + 1 => nxt xss n bad (S r)
end

theorem those_mem (p : Nat → Bool) (n k : Nat) : (k : Int) ∈ those p n ↔ k < n ∧ p k = true := by
  unfold those
  rw [List.mem_map]
  constructor
  · rintro ⟨i, hi, e⟩
    obtain rfl : i = k := by omega
    rw [List.mem_filter, List.mem_range] at hi
    exact hi
  · intro h; exact ⟨k, by rw [List.mem_filter, List.mem_range]; exact h, rfl⟩

theorem those_nat (p : Nat → Bool) (n : Nat) {j : Nat} (hj : j < (those p n).length) : ∃ i : Nat, (those p n)[j]? = some (i : Int) ∧ (those p n).getD j 0 = (i : Int) ∧ i < n ∧ p i = true := by
  have hm : (those p n)[j] ∈ those p n := List.getElem_mem hj
  obtain ⟨i, hi, e⟩ := List.mem_map.1 (show (those p n)[j] ∈ ((List.range n).filter p).map fun (i : Nat) => (i : Int) from hm)
  rw [List.mem_filter, List.mem_range] at hi
  exact ⟨i, by rw [List.getElem?_eq_getElem hj, ← e], by rw [List.getD_eq_getElem?_getD, List.getElem?_eq_getElem hj, Option.getD_some, ← e], hi.1, hi.2⟩

theorem those_nodup (p : Nat → Bool) (n : Nat) : (those p n).Nodup := by
  unfold those
  refine List.Pairwise.map _ (fun a b h => ?_) ((List.nodup_range (n := n)).filter p)
  intro e; exact h (by omega)

section
variable {xss : List (List Int)} {n : Nat} {bad : Nat → Bool}

theorem part_zero (st : Nat → Int) : part xss n bad st 0 = st := by funext k; simp [part]
theorem part_all (st : Nat → Int) : part xss n bad st (nowL xss n st).length = nxt xss n bad st := by funext k; simp [part, nxt]
theorem take_succ_at {l : List Int} {j : Nat} {i : Int} (h : l[j]? = some i) : l.take (j + 1) = l.take j ++ [i] := by
  obtain ⟨hj, e⟩ := List.getElem?_eq_some_iff.1 h
  rw [List.take_succ_eq_append_getElem hj, e]
theorem part_succ (st : Nat → Int) {j i : Nat} (h : (nowL xss n st)[j]? = some (i : Int)) : part xss n bad st (j + 1) = upd1 (part xss n bad st j) i (how bad i) := by
  funext k
  unfold part upd1
  rw [take_succ_at h]
  by_cases hk : k = i
  · subst hk; simp
  · rw [if_neg hk]
    have : ((k : Int) ∈ (nowL xss n st).take j ++ [(i : Int)]) ↔ (k : Int) ∈ (nowL xss n st).take j := by
      rw [List.mem_append]; simp; omega
    by_cases h2 : (k : Int) ∈ (nowL xss n st).take j
    · simp only [if_pos h2, if_pos (this.2 h2)]
    · simp only [if_neg h2, if_neg (fun e => h2 (this.1 e))]

theorem nodup_take {l : List Int} (h : l.Nodup) {j : Nat} {x : Int} (hx : l[j]? = some x) : x ∉ l.take j := by
  intro hm
  obtain ⟨hj, e⟩ := List.getElem?_eq_some_iff.1 hx
  obtain ⟨i, hi, e2⟩ := List.mem_take_iff_getElem.1 hm
  have hij : i < j := by omega
  have := (List.pairwise_iff_getElem.1 h) i j (by omega) hj hij
  exact this (by rw [e2, e])

/-- The one whose turn it is has not been touched. -/
theorem part_at (st : Nat → Int) {j i : Nat} (h : (nowL xss n st)[j]? = some (i : Int)) : part xss n bad st j i = 0 ∧ i < n := by
  have hm : (i : Int) ∈ nowL xss n st := List.mem_of_getElem? h
  have h2 := (those_mem _ _ _).1 hm
  refine ⟨?_, h2.1⟩
  unfold part
  rw [if_neg (show ¬ ((i : Int) ∈ (nowL xss n st).take j) from nodup_take (those_nodup _ _) h)]
  have := h2.2
  simp [isNow] at this
  exact this.1

theorem countP_upd_one (l : List Int) (hl : ∀ u ∈ l, 0 ≤ u) (st : Nat → Int) (i : Nat) (hi : st i ≠ 1) :
    (l.countP fun u => upd1 st i 1 u.toNat != 1) + l.count (i : Int) = l.countP fun u => st u.toNat != 1 := by
  induction l with
  | nil => rfl
  | cons u l ih =>
    have ih := ih fun u hu => hl u (List.mem_cons_of_mem _ hu)
    have h0 := hl u List.mem_cons_self
    rw [List.countP_cons, List.countP_cons, List.count_cons]
    by_cases h : u = (i : Int)
    · subst h
      have e1 : (upd1 st i 1 (Int.toNat (i : Int)) != 1) = false := by simp [upd1]
      have e2 : (st (Int.toNat (i : Int)) != 1) = true := by simpa using hi
      rw [e1, e2]; simp; omega
    · have hn : u.toNat ≠ i := by omega
      have e1 : (upd1 st i 1 u.toNat != 1) = (st u.toNat != 1) := by simp [upd1, hn]
      have e3 : (u == (i : Int)) = false := by simpa using h
      rw [e1, e3]; simp; omega

theorem countP_upd_other (l : List Int) (st : Nat → Int) (i : Nat) (x : Int) (hi : st i ≠ 1) (hx : x ≠ 1) : (l.countP fun u => upd1 st i x u.toNat != 1) = l.countP fun u => st u.toNat != 1 := by
  congr 1
  funext u
  unfold upd1
  by_cases h : u.toNat = i
  · have e1 : (x != 1) = true := by simpa using hx
    have e2 : (st i != 1) = true := by simpa using hi
    rw [if_pos h, h, e1, e2]
  · rw [if_neg h]

theorem abv_count (k u m : Nat) : ((abv xss m u).count (k : Int)) = if k < m then (row xss k).count (u : Int) else 0 := by
  induction m with
  | zero => simp [abv]
  | succ m ih =>
    unfold abv
    rw [List.count_append, ih, List.count_replicate]
    by_cases h1 : k < m
    · have : ((m : Int) == (k : Int)) = false := by simp; omega
      simp only [if_pos h1, if_pos (show k < m + 1 by omega), this]
      simp
    · by_cases h2 : k = m
      · subst h2; simp
      · have : ((m : Int) == (k : Int)) = false := by simp; omega
        simp only [if_neg h1, if_neg (show ¬ k < m + 1 by omega), this]
        simp

theorem abv_in (u m : Nat) : ∀ x ∈ abv xss m u, 0 ≤ x ∧ x < (m : Int) := by
  induction m with
  | zero => simp [abv]
  | succ m ih =>
    intro x hx
    unfold abv at hx
    rcases List.mem_append.1 hx with h | h
    · have := ih x h; omega
    · have := (List.mem_replicate.1 h).2; omega

theorem hits_mem (lk : Nat → Int) (ks : List Int) (hks : ∀ x ∈ ks, 0 ≤ x) (k : Nat) (hk : ((ks.count (k : Int) : Nat) : Int) ≤ lk k) : ∀ j, j ≤ ks.length → ((k : Int) ∈ hits lk ks j ↔ 0 < (ks.take j).count (k : Int) ∧ lk k = (((ks.take j).count (k : Int) : Nat) : Int)) := by
  intro j
  induction j with
  | zero => intro _; simp [hits]
  | succ j ih =>
    intro hj
    have ih := ih (by omega)
    have hx : ks[j]? = some (ks.getD j 0) := by rw [List.getD_eq_getElem?_getD, List.getElem?_eq_getElem (by omega), Option.getD_some]
    have ht := take_succ_at hx
    have hle : (ks.take (j + 1)).count (k : Int) ≤ ks.count (k : Int) := (List.take_sublist _ _).count_le _
    have hdef : hits lk ks (j + 1) = if low lk ks (j + 1) (ks.getD j 0).toNat = 0 then hits lk ks j ++ [ks.getD j 0] else hits lk ks j := rfl
    obtain ⟨x, hxe⟩ : ∃ x, x = ks.getD j 0 := ⟨_, rfl⟩
    rw [← hxe] at hdef ht
    rw [hdef]
    by_cases h : x = (k : Int)
    · subst h
      have hC : (ks.take (j + 1)).count (k : Int) = (ks.take j).count (k : Int) + 1 := by rw [ht, List.count_append, List.count_singleton_self]
      have hL : low lk ks (j + 1) (Int.toNat (k : Int)) = lk k - (((ks.take j).count (k : Int) + 1 : Nat) : Int) := by
        rw [Int.toNat_natCast]; unfold low; rw [hC]
      rw [hL, hC]
      rw [hC] at hle
      constructor
      · intro hm
        split at hm
        · omega
        · have := ih.1 hm; omega
      · intro hm
        rw [if_pos (by omega)]
        simp
    · have hC : (ks.take (j + 1)).count (k : Int) = (ks.take j).count (k : Int) := by
        rw [ht, List.count_append, List.count_singleton]; simp [h]
      rw [hC, ← ih]
      split
      · rw [List.mem_append]
        constructor
        · rintro (e | e)
          · exact e
          · exact absurd (List.mem_singleton.1 e).symm h
        · exact .inl
      · rfl
end
end Go.Proofs.Ytoilhpmimcbniaa

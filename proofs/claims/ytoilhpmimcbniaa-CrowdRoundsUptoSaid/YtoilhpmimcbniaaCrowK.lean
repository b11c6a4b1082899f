/- The rounds, plainly (2); a grid of lists of the call's own. -/
import Derived.Test.YtoilhpmimcbniaaCrowJ
namespace Go.Proofs.Ytoilhpmimcbniaa
open Go.RowKit

theorem those_lt (p q : Nat → Bool) : ∀ n, (∀ k, k < n → p k = true → q k = true) → (those p n).length ≤ (those q n).length ∧ ((∃ k, k < n ∧ q k = true ∧ p k = false) → (those p n).length < (those q n).length)
  | 0, _ => ⟨Nat.le_refl _, fun ⟨_, h, _⟩ => absurd h (Nat.not_lt_zero _)⟩
  | n + 1, h => by
    obtain ⟨h1, h2⟩ := those_lt p q n fun k hk => h k (by omega)
    have hn := h n (by omega)
    rw [those_succ, those_succ]
    constructor
    · cases hp : p n with
      | true => rw [hn hp]; simp; omega
      | false => cases q n <;> simp <;> omega
    · rintro ⟨k, hk, hq, hp⟩
      rcases Nat.lt_or_ge k n with hlt | hge
      · have := h2 ⟨k, hlt, hq, hp⟩
        cases hp : p n with
        | true => rw [hn hp]; simp; omega
        | false => cases q n <;> simp <;> omega
      · obtain rfl : k = n := by omega
        rw [hp, hq]; simp; omega

theorem those_congr {p q : Nat → Bool} {n : Nat} (h : ∀ k, k < n → p k = q k) : those p n = those q n := by
  unfold those
  congr 1
  apply List.filter_congr
  intro k hk
  exact h k (List.mem_range.1 hk)

section
variable {xss : List (List Int)} {n : Nat} {bad : Nat → Bool}

def Wf (xss : List (List Int)) (n : Nat) : Prop := ∀ k, k < n → ∀ u ∈ row xss k, 0 ≤ u ∧ u < (n : Int)

theorem lack_step (hwf : Wf xss n) (st : Nat → Int) {j i k : Nat} (hk : k < n) (h : (nowL xss n st)[j]? = some (i : Int)) :
    lackOf xss (part xss n bad st (j + 1)) k + (if how bad i = 1 then (row xss k).count (i : Int) else 0) = lackOf xss (part xss n bad st j) k := by
  have h0 := (part_at (bad := bad) st h).1
  rw [part_succ st h]
  unfold lackOf
  by_cases hh : how bad i = 1
  · rw [hh, if_pos rfl]
    exact countP_upd_one _ (fun u hu => (hwf k hk u hu).1) _ _ (by omega)
  · rw [if_neg hh, Nat.add_zero]
    exact countP_upd_other _ _ _ _ (by omega) hh

theorem lack_mono (hwf : Wf xss n) (st : Nat → Int) {k : Nat} (hk : k < n) : ∀ j, j ≤ (nowL xss n st).length → lackOf xss (part xss n bad st j) k ≤ lackOf xss st k
  | 0, _ => by rw [part_zero]; exact Nat.le_refl _
  | j + 1, hj => by
    obtain ⟨i, hi, _⟩ := those_nat (isNow xss st) n (j := j) (by unfold nowL at hj; omega)
    have := lack_step (bad := bad) hwf st hk hi
    have := lack_mono hwf st hk j (by omega)
    omega

/-- Who has come to nothing lacking among the first j of the round. -/
def mk (xss : List (List Int)) (n : Nat) (bad : Nat → Bool) (st : Nat → Int) (j k : Nat) : Bool := lackOf xss st k != 0 && lackOf xss (part xss n bad st j) k == 0

theorem mk_zero (st : Nat → Int) (k : Nat) : mk xss n bad st 0 k = false := by unfold mk; rw [part_zero]; cases h : lackOf xss st k <;> simp

theorem mk_failed (hwf : Wf xss n) (st : Nat → Int) {j i k : Nat} (hk : k < n) (h : (nowL xss n st)[j]? = some (i : Int)) (hh : how bad i ≠ 1) : mk xss n bad st (j + 1) k = mk xss n bad st j k := by
  have := lack_step (bad := bad) hwf st hk h
  rw [if_neg hh, Nat.add_zero] at this
  unfold mk; rw [this]

theorem mk_bound (hwf : Wf xss n) (st : Nat → Int) {j i k : Nat} (hk : k < n) (h : (nowL xss n st)[j]? = some (i : Int)) (hh : how bad i = 1) (c : Nat) (hc : (row xss k).count (i : Int) = c) :
    mk xss n bad st (j + 1) k = (mk xss n bad st j k || (decide (0 < c ∧ lackOf xss (part xss n bad st j) k = c))) := by
  have h1 := lack_step (bad := bad) hwf st hk h
  rw [if_pos hh, hc] at h1
  have hj : j < (nowL xss n st).length := (List.getElem?_eq_some_iff.1 h).1
  have h2 := lack_mono (bad := bad) hwf st hk j (by omega)
  have hb : ∀ a b : Bool, (a = true ↔ b = true) → a = b := by decide
  apply hb
  unfold mk
  simp only [Bool.and_eq_true, Bool.or_eq_true, bne_iff_ne, beq_iff_eq, decide_eq_true_eq]
  omega

def Inv (xss : List (List Int)) (n : Nat) (st : Nat → Int) : Prop := ∀ k, k < n → st k ≠ 0 → lackOf xss st k = 0

theorem how_ne (k : Nat) : how bad k ≠ 0 := by unfold how; split <;> decide

theorem lack_nxt (hwf : Wf xss n) (st : Nat → Int) {k : Nat} (hk : k < n) : lackOf xss (nxt xss n bad st) k ≤ lackOf xss st k := by
  rw [← part_all]; exact lack_mono hwf st hk _ (Nat.le_refl _)

theorem inv_nxt (hwf : Wf xss n) {st : Nat → Int} (h : Inv xss n st) : Inv xss n (nxt xss n bad st) := fun k hk hne => by
  have hle := lack_nxt (bad := bad) hwf st hk
  by_cases hm : (k : Int) ∈ nowL xss n st
  · have := (those_mem _ _ _).1 hm
    simp [isNow] at this
    omega
  · have : nxt xss n bad st k = st k := by unfold nxt; rw [if_neg hm]
    have := h k hk (this ▸ hne)
    omega

theorem mk_all (hwf : Wf xss n) {st : Nat → Int} (h : Inv xss n st) {k : Nat} (hk : k < n) : mk xss n bad st (nowL xss n st).length k = isNow xss (nxt xss n bad st) k := by
  have hb : ∀ a b : Bool, (a = true ↔ b = true) → a = b := by decide
  apply hb
  unfold mk isNow
  rw [part_all]
  simp only [Bool.and_eq_true, bne_iff_ne, beq_iff_eq]
  have hle := lack_nxt (bad := bad) hwf st hk
  have hinv := h k hk
  by_cases hm : (k : Int) ∈ nowL xss n st
  · have h1 := (those_mem _ _ _).1 hm
    have h2 : nxt xss n bad st k ≠ 0 := by unfold nxt; rw [if_pos hm]; exact how_ne k
    simp [isNow] at h1
    omega
  · have h2 : nxt xss n bad st k = st k := by unfold nxt; rw [if_neg hm]
    have h1 : ¬ (st k = 0 ∧ lackOf xss st k = 0) := fun e => hm ((those_mem _ _ _).2 ⟨hk, by simp [isNow, e]⟩)
    rw [h2]
    omega

theorem inv_S (hwf : Wf xss n) : ∀ r, Inv xss n (S xss n bad r)
  | 0 => fun _ _ h => absurd rfl h
  | r + 1 => inv_nxt hwf (inv_S hwf r)

/-- How many have been done. -/
def dones (n : Nat) (st : Nat → Int) : Nat := (those (fun k => st k != 0) n).length
theorem dones_le (st : Nat → Int) : dones n st ≤ n := those_len _ _
theorem dones_nxt (st : Nat → Int) (h : nowL xss n st ≠ []) : dones n st < dones n (nxt xss n bad st) := by
  have hpos : 0 < (nowL xss n st).length := by cases h' : nowL xss n st with | nil => exact absurd h' h | cons => simp
  obtain ⟨i, hi, _, hin, hnow⟩ := those_nat (isNow xss st) n (j := 0) hpos
  have hm : (i : Int) ∈ nowL xss n st := List.mem_of_getElem? hi
  refine (those_lt _ _ n fun k hk hp => ?_).2 ⟨i, hin, ?_, ?_⟩
  · have hp : st k ≠ 0 := by simpa using hp
    have : nxt xss n bad st k ≠ 0 := by unfold nxt; split; exact how_ne k; exact hp
    simpa using this
  · have : nxt xss n bad st i ≠ 0 := by unfold nxt; rw [if_pos hm]; exact how_ne i
    simpa using this
  · simp [isNow] at hnow; simp [hnow.1]

/-- The rounds end behind R. -/
def Stops (xss : List (List Int)) (n : Nat) (bad : Nat → Bool) (R : Nat) : Prop := nowL xss n (S xss n bad R) = [] ∧ ∀ r, r < R → nowL xss n (S xss n bad r) ≠ []
theorem stops_eq {R R' : Nat} (h : Stops xss n bad R) (h' : Stops xss n bad R') : R = R' := by
  rcases Nat.lt_trichotomy R R' with h1 | h1 | h1
  · exact absurd h.1 (h'.2 R h1)
  · exact h1
  · exact absurd h'.1 (h.2 R' h1)
end

/-- A GRID: a list of lists of the call's own. G: its blocks. -/
structure Grid (w : World) (G : Nat → Prop) (v : Value) (r : Nat) (R : Nat → List Int) (vf : Nat → Value) : Prop where
  s : w.ownsRow 0 23 1 v r (fl r vf)
  rows : ∀ j, j < r → w.ownsRow 0 3 1 (vf j) (R j).length (ints (R j))
  gs : ∀ g, v.ownBlock = some g → G g
  gr : ∀ j g, j < r → (vf j).ownBlock = some g → G g ∧ v.ownBlock ≠ some g
  apart : ∀ j j' g, j < r → j' < r → (vf j).ownBlock = some g → (vf j').ownBlock = some g → j = j'

theorem Grid.nil (w : World) (G : Nat → Prop) (R : Nat → List Int) (vf : Nat → Value) : Grid w G (.slice none 0 0) 0 R vf :=
  ⟨World.ownsRow_nil _ _ _ _, fun _ h => absurd h (Nat.not_lt_zero _), fun _ e => (by cases e), fun _ _ h => absurd h (Nat.not_lt_zero _), fun _ _ _ h => absurd h (Nat.not_lt_zero _)⟩

section
variable {w w' : World} {G : Nat → Prop} {v : Value} {r : Nat} {R : Nat → List Int} {vf : Nat → Value}

theorem Grid.other (h : Grid w G v r R vf) {H : Nat → Prop} (hc : Chg H w w') (hH : ∀ x, H x → G x → w.heap.size ≤ x) : Grid w' G v r R vf := by
  have key : ∀ g, G g → g < w.heap.size → ¬ H g := fun g hG hlt hg => by have := hH g hg hG; omega
  exact ⟨hc.owns h.s fun g e => key g (h.gs g e) (h.s.lt g e).2, fun j hj => hc.owns (h.rows j hj) fun g e => key g (h.gr j g hj e).1 ((h.rows j hj).lt g e).2, h.gs, h.gr, h.apart⟩

theorem Grid.mono {G' : Nat → Prop} (h : Grid w G v r R vf) (hG : ∀ x, G x → G' x) : Grid w G' v r R vf :=
  ⟨h.s, h.rows, fun g e => hG g (h.gs g e), fun j g hj e => ⟨hG g (h.gr j g hj e).1, (h.gr j g hj e).2⟩, h.apart⟩

theorem fl_succ {α : Type} (r : Nat) (f : Nat → α) (x : α) : fl r f ++ [x] = fl (r + 1) (upd1 f r x) := by
  unfold fl
  rw [List.range_succ, List.map_append]
  congr 1
  · apply List.map_congr_left
    intro k hk
    have := List.mem_range.1 hk
    unfold upd1; rw [if_neg (by omega)]
  · simp [upd1]

/-- One row more, whose block is none of the grid's. -/
theorem Grid.push (h : Grid w G v r R vf) {u : Value} {o : Obj} {w1 : World} {v1 : Value} (hu : w.ownsRow 0 3 1 u (R r).length (ints (R r))) (huG : ∀ g, u.ownBlock = some g → ¬ G g)
    (hv1 : w1.ownsRow 0 23 1 v1 (r + 1) (fl r vf ++ [u])) (hg1 : (w.alloc o).grownBy w1 v.ownBlock) (hb1 : v1.ownBlock = v.ownBlock ∨ v1.ownBlock = some (w.alloc o).heap.size) :
    Grid w1 (fun x => G x ∨ u.ownBlock = some x ∨ w.heap.size ≤ x) v1 (r + 1) R (upd1 vf r u) ∧ Chg G w w1 := by
  have hc : Chg G w w1 := ((Chg.of_grown (World.grownBy_alloc w o none)).mono (fun x e => by cases e)).trans (Chg.of_grown hg1) (fun x e => .inl (h.gs x e))
  have hc2 : Chg (fun x => v.ownBlock = some x) w w1 := ((Chg.of_grown (World.grownBy_alloc w o none)).mono (fun x e => by cases e)).trans (Chg.of_grown hg1) (fun x e => .inl e)
  have hv1b : ∀ g, v1.ownBlock = some g → v.ownBlock = some g ∨ w.heap.size < g := fun g e => by
    rcases hb1 with e' | e'
    · exact .inl (e' ▸ e)
    · right; rw [e'] at e; cases e; simp
  refine ⟨⟨by rw [← fl_succ]; exact hv1, fun j hj => ?_, fun g e => ?_, fun j g hj e => ?_, fun j j' g hj hj' e e' => ?_⟩, hc⟩
  · by_cases hjr : j = r
    · subst hjr; simp only [upd1, if_true]; exact hc2.owns hu fun g e e' => huG g e (h.gs g e')
    · simp only [upd1, if_neg hjr]; exact hc2.owns (h.rows j (by omega)) fun g e e' => (h.gr j g (by omega) e).2 e'
  · rcases hv1b g e with e' | e'
    · exact .inl (h.gs g e')
    · exact .inr (.inr (by omega))
  · by_cases hjr : j = r
    · subst hjr; simp only [upd1, if_true] at e
      refine ⟨.inr (.inl e), fun e' => ?_⟩
      rcases hv1b g e' with e2 | e2
      · exact huG g e (h.gs g e2)
      · have := (hu.lt g e).2; omega
    · simp only [upd1, if_neg hjr] at e
      obtain ⟨a1, a2⟩ := h.gr j g (by omega) e
      refine ⟨.inl a1, fun e' => ?_⟩
      rcases hv1b g e' with e2 | e2
      · exact a2 e2
      · have := ((h.rows j (by omega)).lt g e).2; omega
  · by_cases hjr : j = r <;> by_cases hjr' : j' = r
    · omega
    · subst hjr; simp only [upd1, if_true] at e; simp only [upd1, if_neg hjr'] at e'
      exact absurd (h.gr j' g (by omega) e').1 (huG g e)
    · subst hjr'; simp only [upd1, if_true] at e'; simp only [upd1, if_neg hjr] at e
      exact absurd (h.gr j g (by omega) e).1 (huG g e')
    · simp only [upd1, if_neg hjr] at e; simp only [upd1, if_neg hjr'] at e'
      exact h.apart j j' g (by omega) (by omega) e e'
end

theorem Board.tight {w : World} {F : Nat → Prop} {b g1 g2 g3 n : Nat} {st lk : Nat → Int} {ab : Nat → List Int} {vf : Nat → Value} (h : Board w F b g1 g2 g3 n st lk ab vf) : Board w (fun x => F x ∧ x < w.heap.size) b g1 g2 g3 n st lk ab vf :=
  ⟨h.hb, h.s1, h.s2, h.s3, h.rows, h.ne, fun j g hj e => by
    obtain ⟨a1, a2, a3, a4, a5⟩ := h.apart j g hj e
    exact ⟨a1, a2, a3, a4, a5, ((h.rows j hj).lt g e).2⟩, h.apart2, ⟨h.own.1, h.hlt⟩, ⟨h.own.2.1, (h.s1.lt g1 rfl).2⟩, ⟨h.own.2.2.1, (h.s2.lt g2 rfl).2⟩, ⟨h.own.2.2.2, (h.s3.lt g3 rfl).2⟩⟩
end Go.Proofs.Ytoilhpmimcbniaa

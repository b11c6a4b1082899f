/- The board: its memory, and what its operations leave. -/
import Derived.Test.YtoilhpmimcbniaaCrowE
import Derived.Deep.RegionLaw
namespace Go.Proofs.Ytoilhpmimcbniaa
open Go.RowKit

/-- n values. -/
def fl {α : Type} (n : Nat) (f : Nat → α) : List α := (List.range n).map f

theorem fl_len {α : Type} (n : Nat) (f : Nat → α) : (fl n f).length = n := by simp [fl]
theorem fl_at {α : Type} {n j : Nat} (f : Nat → α) (hj : j < n) : (fl n f)[j]? = some (f j) := by simp [fl, List.getElem?_range hj]
def upd1 {α : Type} (f : Nat → α) (j : Nat) (x : α) : Nat → α := fun i => if i = j then x else f i
theorem fl_set {α : Type} (n j : Nat) (f : Nat → α) (x : α) : (fl n f).set j x = fl n (upd1 f j x) := by
  apply List.ext_getElem?
  intro i
  rw [List.getElem?_set]
  by_cases hi : i < n
  · have hR : (fl n (upd1 f j x))[i]? = some (upd1 f j x i) := fl_at _ hi
    rw [hR, fl_at f hi]
    by_cases h : j = i
    · subst h; simp [fl_len, hi, upd1]
    · rw [if_neg h]; unfold upd1; rw [if_neg (fun e : i = j => h e.symm)]
  · have h1 : (fl n f)[i]? = none := List.getElem?_eq_none (by rw [fl_len]; omega)
    have h2 : (fl n (upd1 f j x))[i]? = none := List.getElem?_eq_none (by rw [fl_len]; omega)
    rw [h1, h2]
    by_cases h : j = i
    · subst h; simp [fl_len, hi]
    · simp [h]
theorem fl_upd_map {α β : Type} (g : α → β) (f : Nat → α) (j : Nat) (x : α) : upd1 (fun i => g (f i)) j (g x) = fun i => g (upd1 f j x i) := by
  funext i; unfold upd1; split <;> rfl

/-- What is changed lies in F, or is new. -/
structure Chg (F : Nat → Prop) (w w' : World) : Prop where
  os : w'.os = w.os
  tape : w'.tape = w.tape
  output : w'.output = w.output
  size : w.heap.size ≤ w'.heap.size
  block : ∀ k, k < w.heap.size → ¬ F k → w'.heap[k]? = w.heap[k]?

theorem Chg.refl (F : Nat → Prop) (w : World) : Chg F w w := ⟨rfl, rfl, rfl, Nat.le_refl _, fun _ _ _ => rfl⟩
theorem Chg.of_grown {w w' : World} {r : Option Nat} (h : w.grownBy w' r) : Chg (fun x => r = some x) w w' := ⟨h.os, h.tape, h.output, h.size, fun k hk hn => h.block k hk fun e => hn e.symm⟩
theorem Chg.trans {F F' : Nat → Prop} {a b c : World} (h : Chg F a b) (h' : Chg F' b c) (hF : ∀ x, F' x → F x ∨ a.heap.size ≤ x) : Chg F a c :=
  ⟨h'.os.trans h.os, h'.tape.trans h.tape, h'.output.trans h.output, Nat.le_trans h.size h'.size, fun k hk hn =>
    (h'.block k (Nat.lt_of_lt_of_le hk h.size) fun e => by rcases hF k e with e | e; exact hn e; omega).trans (h.block k hk hn)⟩
theorem Chg.grown {F : Nat → Prop} {a b : World} (h : Chg F a b) (hF : ∀ x, F x → a.heap.size ≤ x) : a.grownBy b none :=
  ⟨h.os, h.tape, h.output, h.size, fun k hk _ => h.block k hk fun e => by have := hF k e; omega⟩
theorem Chg.mono {F F' : Nat → Prop} {a b : World} (h : Chg F a b) (hF : ∀ x, F x → F' x) : Chg F' a b := ⟨h.os, h.tape, h.output, h.size, fun k hk hn => h.block k hk fun e => hn (hF k e)⟩
theorem Chg.owns {F : Nat → Prop} {w w' : World} (h : Chg F w w') {base e size n : Nat} {v : Value} {xs : List Value} (ho : w.ownsRow base e size v n xs) (hv : ∀ g, v.ownBlock = some g → ¬ F g) : w'.ownsRow base e size v n xs := by
  refine ⟨ho.1, ?_⟩
  rcases ho.2 with hn | ⟨g, cap, cur, rfl, hb, hgg, rest⟩
  · exact .inl hn
  · exact .inr ⟨g, cap, cur, rfl, hb, (h.block g (Array.getElem?_eq_some_iff.1 hgg).1 (hv g rfl)).trans hgg, rest⟩
theorem Chg.cell {F : Nat → Prop} {w w' : World} (h : Chg F w w') {p : Addr} (hp : p.block < w.heap.size) (hn : ¬ F p.block) : w'.cell? p = w.cell? p := World.cell?_of_block (h.block _ hp hn)

theorem grow_chg {w a b : World} {G : Nat → Prop} (h : w.grownBy a none) (h' : Chg G a b) (hG : ∀ x, G x → w.heap.size ≤ x) : w.grownBy b none :=
  ⟨h'.os.trans h.os, h'.tape.trans h.tape, h'.output.trans h.output, Nat.le_trans h.size h'.size, fun k hk _ => (h'.block k (Nat.lt_of_lt_of_le hk h.size) fun e => by have := hG k e; omega).trans (h.block k hk (by simp))⟩

/-- THE BOARD. F: its blocks. -/
structure Board (w : World) (F : Nat → Prop) (b g1 g2 g3 n : Nat) (st lk : Nat → Int) (ab : Nat → List Int) (vf : Nat → Value) : Prop where
  hb : w.heap[b]? = some (.cells #[.slice (some ⟨g1, 0, none⟩) n n, .slice (some ⟨g2, 0, none⟩) n n, .slice (some ⟨g3, 0, none⟩) n n] 67 (0, 0))
  s1 : w.ownsRow 0 5 1 (.slice (some ⟨g1, 0, none⟩) n n) n (fl n fun j => .int .u8 (st j))
  s2 : w.ownsRow 0 3 1 (.slice (some ⟨g2, 0, none⟩) n n) n (fl n fun j => .int .i64 (lk j))
  s3 : w.ownsRow 0 23 1 (.slice (some ⟨g3, 0, none⟩) n n) n (fl n vf)
  rows : ∀ j, j < n → w.ownsRow 0 3 1 (vf j) (ab j).length (ints (ab j))
  ne : b ≠ g1 ∧ b ≠ g2 ∧ b ≠ g3 ∧ g1 ≠ g2 ∧ g1 ≠ g3 ∧ g2 ≠ g3
  apart : ∀ j g, j < n → (vf j).ownBlock = some g → g ≠ b ∧ g ≠ g1 ∧ g ≠ g2 ∧ g ≠ g3 ∧ F g
  apart2 : ∀ j j' g, j < n → j' < n → (vf j).ownBlock = some g → (vf j').ownBlock = some g → j = j'
  own : F b ∧ F g1 ∧ F g2 ∧ F g3

section
variable {w w' : World} {F : Nat → Prop} {b g1 g2 g3 n : Nat} {st lk : Nat → Int} {ab : Nat → List Int} {vf : Nat → Value}

theorem Board.hlt (h : Board w F b g1 g2 g3 n st lk ab vf) : b < w.heap.size := (Array.getElem?_eq_some_iff.1 h.hb).1

theorem Board.other (h : Board w F b g1 g2 g3 n st lk ab vf) {G : Nat → Prop} (hc : Chg G w w') (hG : ∀ x, G x → F x → w.heap.size ≤ x) : Board w' F b g1 g2 g3 n st lk ab vf := by
  have key : ∀ g, F g → g < w.heap.size → ¬ G g := fun g hF hlt hg => by have := hG g hg hF; omega
  refine ⟨(hc.block b h.hlt (key b h.own.1 h.hlt)).trans h.hb, hc.owns h.s1 ?_, hc.owns h.s2 ?_, hc.owns h.s3 ?_, fun j hj => hc.owns (h.rows j hj) ?_, h.ne, h.apart, h.apart2, h.own⟩
  · intro g e; exact key g (by cases e; exact h.own.2.1) (h.s1.lt g e).2
  · intro g e; exact key g (by cases e; exact h.own.2.2.1) (h.s2.lt g e).2
  · intro g e; exact key g (by cases e; exact h.own.2.2.2) (h.s3.lt g e).2
  · intro g e; exact key g (h.apart j g hj e).2.2.2.2 ((h.rows j hj).lt g e).2

theorem Board.cells (h : Board w F b g1 g2 g3 n st lk ab vf) : w.cell? ⟨b, 0, none⟩ = some (.slice (some ⟨g1, 0, none⟩) n n) ∧ w.cell? ⟨b, 1, none⟩ = some (.slice (some ⟨g2, 0, none⟩) n n) ∧ w.cell? ⟨b, 2, none⟩ = some (.slice (some ⟨g3, 0, none⟩) n n) := by
  refine ⟨?_, ?_, ?_⟩ <;> rw [cell_of_row w b _ _ 67 (0, 0) h.hb] <;> rfl

theorem Board.at1 (h : Board w F b g1 g2 g3 n st lk ab vf) {j : Nat} (hj : j < n) : w.cell? ⟨g1, j, none⟩ = some (.int .u8 (st j)) := by rw [h.s1.cellAt j (by omega), fl_at _ hj]
theorem Board.at2 (h : Board w F b g1 g2 g3 n st lk ab vf) {j : Nat} (hj : j < n) : w.cell? ⟨g2, j, none⟩ = some (.int .i64 (lk j)) := by rw [h.s2.cellAt j (by omega), fl_at _ hj]
theorem Board.at3 (h : Board w F b g1 g2 g3 n st lk ab vf) {j : Nat} (hj : j < n) : w.cell? ⟨g3, j, none⟩ = some (vf j) := by rw [h.s3.cellAt j (by omega), fl_at _ hj]

/-- A state is set. -/
theorem Board.set1 (h : Board w F b g1 g2 g3 n st lk ab vf) (j : Nat) (x : Int) : Board (w.setCell ⟨g1, j, none⟩ (.int .u8 x)) F b g1 g2 g3 n (upd1 st j x) lk ab vf ∧ Chg (fun y => y = g1) w (w.setCell ⟨g1, j, none⟩ (.int .u8 x)) := by
  obtain ⟨h1, h2⟩ := h.s1.stored j (.int .u8 x)
  have hc : Chg (fun y => y = g1) w (w.setCell ⟨g1, j, none⟩ (.int .u8 x)) := (Chg.of_grown h2).mono fun y e => by cases e; rfl
  refine ⟨⟨(hc.block b h.hlt h.ne.1).trans h.hb, ?_, hc.owns h.s2 ?_, hc.owns h.s3 ?_, fun j hj => hc.owns (h.rows j hj) ?_, h.ne, h.apart, h.apart2, h.own⟩, hc⟩
  · rw [fl_set, fl_upd_map (Value.int .u8)] at h1; exact h1
  · intro g e; cases e; exact fun e => h.ne.2.2.2.1 e.symm
  · intro g e; cases e; exact fun e => h.ne.2.2.2.2.1 e.symm
  · intro g e; exact (h.apart j g hj e).2.1

/-- What is lacking is set. -/
theorem Board.set2 (h : Board w F b g1 g2 g3 n st lk ab vf) (j : Nat) (x : Int) : Board (w.setCell ⟨g2, j, none⟩ (.int .i64 x)) F b g1 g2 g3 n st (upd1 lk j x) ab vf ∧ Chg (fun y => y = g2) w (w.setCell ⟨g2, j, none⟩ (.int .i64 x)) := by
  obtain ⟨h1, h2⟩ := h.s2.stored j (.int .i64 x)
  have hc : Chg (fun y => y = g2) w (w.setCell ⟨g2, j, none⟩ (.int .i64 x)) := (Chg.of_grown h2).mono fun y e => by cases e; rfl
  refine ⟨⟨(hc.block b h.hlt h.ne.2.1).trans h.hb, hc.owns h.s1 ?_, ?_, hc.owns h.s3 ?_, fun j hj => hc.owns (h.rows j hj) ?_, h.ne, h.apart, h.apart2, h.own⟩, hc⟩
  · intro g e; cases e; exact h.ne.2.2.2.1
  · rw [fl_set, fl_upd_map (Value.int .i64)] at h1; exact h1
  · intro g e; cases e; exact fun e => h.ne.2.2.2.2.2 e.symm
  · intro g e; exact (h.apart j g hj e).2.2.1

theorem Board.mono {F' : Nat → Prop} (h : Board w F b g1 g2 g3 n st lk ab vf) (hF : ∀ x, F x → F' x) : Board w F' b g1 g2 g3 n st lk ab vf :=
  ⟨h.hb, h.s1, h.s2, h.s3, h.rows, h.ne, fun j g hj e => by
    obtain ⟨a1, a2, a3, a4, a5⟩ := h.apart j g hj e; exact ⟨a1, a2, a3, a4, hF _ a5⟩, h.apart2, ⟨hF _ h.own.1, hF _ h.own.2.1, hF _ h.own.2.2.1, hF _ h.own.2.2.2⟩⟩

/-- Behind the append. -/
theorem Board.during (h : Board w F b g1 g2 g3 n st lk ab vf) {u : Nat} (hu : u < n) {w1 : World} (hg1 : w.grownBy w1 (vf u).ownBlock) :
    w1.cell? ⟨g3, u, none⟩ = some (vf u) ∧ w1.frozen? ⟨g3, u, none⟩ = false ∧ w1.cell? ⟨b, 2, none⟩ = some (.slice (some ⟨g3, 0, none⟩) n n) := by
  have hc := Chg.of_grown hg1
  have h3 := hc.owns h.s3 (fun g e => by cases e; exact fun e => (h.apart u _ hu e).2.2.2.1 rfl)
  refine ⟨by rw [h3.cellAt u (by omega), fl_at _ hu], h3.frozenAt u, ?_⟩
  exact (hc.cell (p := ⟨b, 2, none⟩) h.hlt (fun e => (h.apart u _ hu e).1 rfl)).trans h.cells.2.2

/-- One more waits for u: append, and the store of what it gave. -/
theorem Board.push3 (h : Board w F b g1 g2 g3 n st lk ab vf) {u : Nat} (hu : u < n) {i : Int} {v1 : Value} {w0 w1 : World} (h0 : w.grownBy w0 none)
    (hv1 : w1.ownsRow 0 3 1 v1 ((ab u).length + 1) (ints (ab u) ++ [.int .i64 i])) (hg1 : w0.grownBy w1 (vf u).ownBlock) (hb1 : v1.ownBlock = (vf u).ownBlock ∨ v1.ownBlock = some w0.heap.size) :
    Board (w1.setCell ⟨g3, u, none⟩ v1) (fun x => F x ∨ w.heap.size ≤ x) b g1 g2 g3 n st lk (upd1 ab u (ab u ++ [i])) (upd1 vf u v1) ∧ Chg F w (w1.setCell ⟨g3, u, none⟩ v1) := by
  have hup : Board w (fun x => F x ∨ w.heap.size ≤ x) b g1 g2 g3 n st lk ab vf := ⟨h.hb, h.s1, h.s2, h.s3, h.rows, h.ne, fun j g hj e => by
    obtain ⟨a1, a2, a3, a4, a5⟩ := h.apart j g hj e; exact ⟨a1, a2, a3, a4, .inl a5⟩, h.apart2, ⟨.inl h.own.1, .inl h.own.2.1, .inl h.own.2.2.1, .inl h.own.2.2.2⟩⟩
  have hne : ∀ g, (vf u).ownBlock = some g → g ≠ b ∧ g ≠ g1 ∧ g ≠ g2 ∧ g ≠ g3 ∧ F g := fun g e => h.apart u g hu e
  have c0 : Chg (fun x => (vf u).ownBlock = some x) w w1 := (Chg.trans (F := fun x => (vf u).ownBlock = some x) ((Chg.of_grown h0).mono (fun x e => by cases e)) (Chg.of_grown hg1) (fun x e => .inl e))
  have h3 := c0.owns h.s3 (fun g e => by cases e; exact fun e => (hne _ e).2.2.2.1 rfl)
  obtain ⟨h4, h5⟩ := h3.stored u v1
  have c1 : Chg (fun x => x = g3 ∨ (vf u).ownBlock = some x) w (w1.setCell ⟨g3, u, none⟩ v1) := (c0.mono fun x e => .inr e).trans (Chg.of_grown h5) (fun x e => by cases e; exact .inl (.inl rfl))
  have hv1b : ∀ g, v1.ownBlock = some g → (vf u).ownBlock = some g ∨ w.heap.size ≤ g := fun g e => by
    rcases hb1 with e' | e'
    · exact .inl (e'.symm.trans e)
    · right; rw [e'] at e; cases e; exact h0.size
  have hold : ∀ g, g < w.heap.size → ∀ g', v1.ownBlock = some g' → g' = g → (vf u).ownBlock = some g := fun g hg g' e e' => by
    subst e'; rcases hv1b _ e with e | e
    · exact e
    · omega
  have hv1' : (w1.setCell ⟨g3, u, none⟩ v1).ownsRow 0 3 1 v1 ((ab u).length + 1) (ints (ab u) ++ [.int .i64 i]) := (Chg.of_grown h5).owns hv1 (fun g e e' => by
    cases e'
    have hg3 := (h.s3.lt g3 rfl).2
    exact (hne _ (hold _ hg3 _ e rfl)).2.2.2.1 rfl)
  refine ⟨⟨(c1.block b h.hlt ?_).trans h.hb, c1.owns h.s1 ?_, c1.owns h.s2 ?_, ?_, fun j hj => ?_, h.ne, ?_, ?_, hup.own⟩, c1.mono ?_⟩
  · rintro (e | e)
    · exact h.ne.2.2.1 e
    · exact (hne _ e).1 rfl
  · intro g e; cases e; rintro (e | e)
    · exact h.ne.2.2.2.2.1 e
    · exact (hne _ e).2.1 rfl
  · intro g e; cases e; rintro (e | e)
    · exact h.ne.2.2.2.2.2 e
    · exact (hne _ e).2.2.1 rfl
  · rw [fl_set] at h4; exact h4
  · by_cases hju : j = u
    · subst hju
      simp only [upd1, if_true]
      simpa [ints] using hv1'
    · simp only [upd1, if_neg hju]
      exact c1.owns (h.rows j hj) fun g e => by
        rintro (e' | e')
        · subst e'; exact (h.apart j _ hj e).2.2.2.1 rfl
        · exact hju (h.apart2 j u g hj hu e e')
  · intro j g hj e
    by_cases hju : j = u
    · subst hju
      simp only [upd1, if_true] at e
      rcases hv1b g e with e' | e'
      · obtain ⟨a1, a2, a3, a4, a5⟩ := hne g e'; exact ⟨a1, a2, a3, a4, .inl a5⟩
      · have := h.hlt; have := (h.s1.lt g1 rfl).2; have := (h.s2.lt g2 rfl).2; have := (h.s3.lt g3 rfl).2
        exact ⟨by omega, by omega, by omega, by omega, .inr e'⟩
    · simp only [upd1, if_neg hju] at e
      exact hup.apart j g hj e
  · intro j j' g hj hj' e e'
    by_cases hju : j = u <;> by_cases hju' : j' = u
    · omega
    · subst hju
      simp only [upd1, if_true] at e
      simp only [upd1, if_neg hju'] at e'
      exact h.apart2 j j' g hj hj' (hold g ((h.rows j' hj').lt g e').2 g e rfl) e'
    · subst hju'
      simp only [upd1, if_true] at e'
      simp only [upd1, if_neg hju] at e
      exact h.apart2 j j' g hj hj' e (hold g ((h.rows j hj).lt g e).2 g e' rfl)
    · simp only [upd1, if_neg hju] at e
      simp only [upd1, if_neg hju'] at e'
      exact h.apart2 j j' g hj hj' e e'
  · rintro x (e | e)
    · exact e ▸ h.own.2.2.2
    · exact (hne x e).2.2.2.2
end
end Go.Proofs.Ytoilhpmimcbniaa

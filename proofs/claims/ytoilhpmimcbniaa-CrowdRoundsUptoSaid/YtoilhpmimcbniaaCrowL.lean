/- crowd.Rounds. -/
import Derived.Test.YtoilhpmimcbniaaCrowK
namespace Go.Proofs.Ytoilhpmimcbniaa
open Go.RowKit

theorem info4m : (Try.prog.info? 4).map (fun i => (i.zero, i.size, i.bytes)) = some (some (.bool false), 1, 1) := by kernel_rfl
theorem under49 : Try.prog.underlying 49 = some (.slice 4) := by kernel_rfl

theorem tells_true {P : Program} {f : FuncId} {args : Array Value} {w : World} {p : Prop} {R : World → Prop} (h : Calls P f args w fun e w' => Tells e p ∧ R w') (hp : p) : Calls P f args w fun e w' => e = .returned (.bool true) ∧ R w' :=
  h.mono fun _ _ ⟨⟨b, e, hb⟩, hr⟩ => ⟨by rw [e, hb.2 hp], hr⟩
theorem tells_false {P : Program} {f : FuncId} {args : Array Value} {w : World} {p : Prop} {R : World → Prop} (h : Calls P f args w fun e w' => Tells e p ∧ R w') (hp : ¬ p) : Calls P f args w fun e w' => e = .returned (.bool false) ∧ R w' :=
  h.mono fun _ _ ⟨⟨b, e, hb⟩, hr⟩ => ⟨by cases b with | false => exact e | true => exact absurd (hb.1 rfl) hp, hr⟩

def BadP (n : Nat) (ys : List Int) : Prop := ∀ j, j < ys.length → 0 ≤ ys.getD j 0 ∧ ys.getD j 0 < (n : Int)
def badf (ys : List Int) (k : Nat) : Bool := decide ((k : Int) ∈ ys)

/-- What both Rounds answer. -/
def Outcome (B0 : Nat) (xss : List (List Int)) (ys : List Int) (e : Ending) (w' : World) : Prop :=
  (MayP xss → BadP xss.length ys → ∃ R G v vf v2, e = .returned (.tuple #[v, v2, .int .i64 0]) ∧ Stops xss xss.length (badf ys) R ∧
    Grid w' G v R (fun j => nowL xss xss.length (S xss xss.length (badf ys) j)) vf ∧ (∀ g, G g → B0 ≤ g) ∧
    w'.ownsRow 0 3 1 v2 (those (fun k => S xss xss.length (badf ys) R k == 0) xss.length).length (ints (those (fun k => S xss xss.length (badf ys) R k == 0) xss.length)) ∧ (∀ g, v2.ownBlock = some g → ¬ G g ∧ B0 ≤ g)) ∧
  (¬ (MayP xss ∧ BadP xss.length ys) → e = .returned (.tuple #[.slice none 0 0, .slice none 0 0, .int .i64 1]))

theorem out_bad {B0 : Nat} {xss : List (List Int)} {ys : List Int} {w' : World} (h : ¬ (MayP xss ∧ BadP xss.length ys)) : Outcome B0 xss ys (.returned (.tuple #[.slice none 0 0, .slice none 0 0, .int .i64 1])) w' :=
  ⟨fun h1 h2 => absurd ⟨h1, h2⟩ h, fun _ => rfl⟩

/-- A fact that the walk's simp does not see. -/
def Held (p : Prop) : Prop := p

theorem mark_row {w : World} {B g n j : Nat} {p : Nat → Bool} (h : w.ownsRow B 4 1 (.slice (some ⟨g, 0, none⟩) n n) n (fl n fun k => .bool (p k))) :
    (w.setCell ⟨g, j, none⟩ (.bool true)).ownsRow B 4 1 (.slice (some ⟨g, 0, none⟩) n n) n (fl n fun k => .bool (upd1 p j true k)) ∧ w.grownBy (w.setCell ⟨g, j, none⟩ (.bool true)) (some g) := by
  obtain ⟨h1, h2⟩ := h.stored j (.bool true)
  rw [fl_set, fl_upd_map Value.bool] at h1
  exact ⟨h1, h2⟩

theorem mark_start {w : World} {B n : Nat} (hB : B ≤ w.heap.size) (hn : n ≤ 1048576) : (w.alloc (.cells (madeCells #[.bool false] n) 4)).ownsRow B 4 1 (.slice (some ⟨w.heap.size, 0, none⟩) n n) n (fl n fun _ => .bool false) := by
  have := World.ownsRow_lit (base := B) (size := 1) (e := 4) w (madeCells #[.bool false] n) n hB (by unfold maxLen; omega) (by rw [size_madeCells]; omega)
  rwa [made_fl] at this

theorem badf_take_succ {ys : List Int} {j : Nat} {u : Nat} (h : ys[j]? = some (u : Int)) (k : Nat) : badf (ys.take (j + 1)) k = upd1 (badf (ys.take j)) u true k := by
  unfold badf upd1
  rw [take_succ_at h]
  by_cases hk : k = u
  · subst hk; simp
  · rw [if_neg hk]; congr 1; rw [List.mem_append]; simp; omega

theorem owns_slice {w : World} {base : Nat} {e : TypeId} {size : Nat} {v : Value} {n : Nat} {xs : List Value} (h : w.ownsRow base e size v n xs) : ∃ A c, v = .slice A n c ∧ ∀ w', w'.ownsRow base e 1 v n xs → Reads w' w'.heap.size 1 A n xs := by
  rcases h.2 with ⟨rfl, rfl⟩ | ⟨g, cap, cur, rfl, _⟩
  · exact ⟨none, 0, rfl, fun w' h' => ⟨h'.1, fun h => absurd h (Nat.lt_irrefl _)⟩⟩
  · exact ⟨_, cap, rfl, fun w' h' => owns_reads h'⟩

/-- What holds at the head of the rounds' loop. -/
structure RInv (xss : List (List Int)) (ys : List Int) (n B0 b g1 g2 g3 : Nat) (w wr : World) (r : Nat) (v u : Value) : Prop where
  grown : w.grownBy wr none
  marks : wr.ownsRow B0 4 1 (.slice (some ⟨B0, 0, none⟩) n n) n (fl n fun k => .bool (badf ys k))
  ex : ∃ F G vb vf, Board wr F b g1 g2 g3 n (S xss n (badf ys) r) (fun k => (lackOf xss (S xss n (badf ys) r) k : Int)) (abv xss n) vb ∧ Grid wr G v r (fun j => nowL xss n (S xss n (badf ys) j)) vf ∧
    (∀ x, F x → B0 < x ∧ x < wr.heap.size) ∧ (∀ x, G x → B0 < x ∧ x < wr.heap.size) ∧ (∀ x, F x → ¬ G x) ∧ (∀ g, u.ownBlock = some g → ¬ F g ∧ ¬ G g ∧ B0 < g)
  now : wr.ownsRow 0 3 1 u (nowL xss n (S xss n (badf ys) r)).length (ints (nowL xss n (S xss n (badf ys) r)))
  some : ∀ r', r' < r → nowL xss n (S xss n (badf ys) r') ≠ []
  le : r ≤ dones n (S xss n (badf ys) r)

theorem now_zero {xss : List (List Int)} {n : Nat} {bad : Nat → Bool} : nowL xss n (S xss n bad 0) = those (fun j => ((row xss j).length : Int) == 0) n := by
  refine those_congr fun k _ => ?_
  have : lackOf xss (S xss n bad 0) k = (row xss k).length := by
    unfold lackOf
    rw [List.countP_eq_length]
    intro u _; rfl
  unfold isNow
  rw [this]
  have h1 : (S xss n bad 0 k == 0) = true := rfl
  rw [h1, Bool.true_and]
  have hb : ∀ a b : Bool, (a = true ↔ b = true) → a = b := by decide
  exact hb _ _ (by simp only [beq_iff_eq]; omega)

theorem lack_zero {xss : List (List Int)} {n : Nat} {bad : Nat → Bool} (k : Nat) : (lackOf xss (S xss n bad 0) k : Int) = (row xss k).length := by
  have : lackOf xss (S xss n bad 0) k = (row xss k).length := by
    unfold lackOf
    rw [List.countP_eq_length]
    intro u _; rfl
  rw [this]

theorem Grid.tight {w : World} {G : Nat → Prop} {v : Value} {r : Nat} {R : Nat → List Int} {vf : Nat → Value} (h : Grid w G v r R vf) : Grid w (fun x => G x ∧ x < w.heap.size) v r R vf :=
  ⟨h.s, h.rows, fun g e => ⟨h.gs g e, (h.s.lt g e).2⟩, fun j g hj e => ⟨⟨(h.gr j g hj e).1, ((h.rows j hj).lt g e).2⟩, (h.gr j g hj e).2⟩, h.apart⟩

/-- What holds at the head of the loop over a round's tasks. -/
structure AInv (xss : List (List Int)) (ys : List Int) (n B0 b g1 g2 g3 gN r L : Nat) (w wq : World) (v1 u : Value) (j : Nat) : Prop where
  grown : w.grownBy wq none
  marks : wq.ownsRow B0 4 1 (.slice (some ⟨B0, 0, none⟩) n n) n (fl n fun k => .bool (badf ys k))
  nexts : wq.ownsRow B0 4 1 (.slice (some ⟨gN, 0, none⟩) n n) n (fl n fun k => .bool (mk xss n (badf ys) (S xss n (badf ys) r) j k))
  ex : ∃ F G vb vf, Board wq F b g1 g2 g3 n (part xss n (badf ys) (S xss n (badf ys) r) j) (fun k => (lackOf xss (part xss n (badf ys) (S xss n (badf ys) r) j) k : Int)) (abv xss n) vb ∧ Grid wq G v1 (r + 1) (fun j => nowL xss n (S xss n (badf ys) j)) vf ∧
    (∀ x, F x → B0 < x ∧ x < wq.heap.size ∧ x ≠ gN) ∧ (∀ x, G x → B0 < x ∧ x < wq.heap.size ∧ x ≠ gN) ∧ (∀ x, F x → ¬ G x) ∧ (∀ g, u.ownBlock = some g → G g)
  now : wq.ownsRow 0 3 1 u L (ints (nowL xss n (S xss n (badf ys) r)))
  gn : B0 < gN

theorem ainv_start {xss : List (List Int)} {ys : List Int} {n B0 b g1 g2 g3 r : Nat} {w wr w1 : World} {v u v1 : Value} {o : Obj} (hn : n ≤ 1048576) (hB : B0 = w.heap.size) (hgw : w.grownBy wr none)
    (hmark : wr.ownsRow B0 4 1 (.slice (some ⟨B0, 0, none⟩) n n) n (fl n fun k => .bool (badf ys k))) {F G : Nat → Prop} {vb vf : Nat → Value}
    (hbd : Board wr F b g1 g2 g3 n (S xss n (badf ys) r) (fun k => (lackOf xss (S xss n (badf ys) r) k : Int)) (abv xss n) vb) (hgd : Grid wr G v r (fun j => nowL xss n (S xss n (badf ys) j)) vf)
    (hFb : ∀ x, F x → B0 < x ∧ x < wr.heap.size) (hGb : ∀ x, G x → B0 < x ∧ x < wr.heap.size) (hFG : ∀ x, F x → ¬ G x) (hub : ∀ g, u.ownBlock = some g → ¬ F g ∧ ¬ G g ∧ B0 < g)
    (hnow : wr.ownsRow 0 3 1 u (nowL xss n (S xss n (badf ys) r)).length (ints (nowL xss n (S xss n (badf ys) r))))
    (hv1 : w1.ownsRow 0 23 1 v1 (r + 1) (fl r vf ++ [u])) (hg1 : (wr.alloc o).grownBy w1 v.ownBlock) (hb1 : v1.ownBlock = v.ownBlock ∨ v1.ownBlock = some (wr.alloc o).heap.size) :
    AInv xss ys n B0 b g1 g2 g3 w1.heap.size r (nowL xss n (S xss n (badf ys) r)).length w (w1.alloc (.cells (madeCells #[.bool false] n) 4)) v1 u 0 := by
  obtain ⟨hgd1, hch⟩ := hgd.push (o := o) hnow (fun g e => (hub g e).2.1) hv1 hg1 hb1
  have hsz := hch.size
  have hB0w : B0 < wr.heap.size := (hmark.lt B0 rfl).2
  have hal := World.grownBy_alloc w1 (.cells (madeCells #[.bool false] n) 4) none
  have hca : Chg (fun _ => False) w1 (w1.alloc (.cells (madeCells #[.bool false] n) 4)) := (Chg.of_grown hal).mono fun x e => by cases e
  have hall : Chg G wr (w1.alloc (.cells (madeCells #[.bool false] n) 4)) := hch.trans hca (fun x e => e.elim)
  refine ⟨grow_chg hgw hall (fun x e => by have := (hGb x e).1; omega), hall.owns hmark (fun g e h => by have h2 := (hGb g h).1; have e : some B0 = some g := e; cases e; omega), ?_, ⟨F, _, vb, _, ?_, hgd1.tight.other hca (fun _ e => e.elim), ?_, ?_, ?_, ?_⟩, ?_, by omega⟩
  · have := mark_start (w := w1) (B := B0) (n := n) (by omega) hn
    have e : (fun k => Value.bool (mk xss n (badf ys) (S xss n (badf ys) r) 0 k)) = fun _ => .bool false := by funext k; rw [mk_zero]
    rw [e]; exact this
  · rw [part_zero]
    exact hbd.other hall (fun x h1 h2 => absurd h1 (hFG x h2))
  · intro x hx
    have := hFb x hx
    simp; omega
  · intro x hx
    simp
    rcases hx.1 with h | h | h
    · have := hGb x h; omega
    · have h2 := hub x h
      have := hx.2
      have := (hnow.lt x h).2
      omega
    · have := hx.2; omega
  · intro x hx hg
    rcases hg.1 with h | h | h
    · exact hFG x hx h
    · exact (hub x h).1 hx
    · have := hFb x hx; omega
  · intro g e
    exact ⟨.inr (.inl e), by have := (hnow.lt g e).2; omega⟩
  · exact hall.owns hnow (fun g e h => (hub g e).2.1 h)

theorem ainv_next {xss : List (List Int)} {ys : List Int} {n B0 b g1 g2 g3 gN r L : Nat} {w wq w2 w3 : World} {v1 u : Value} {j : Nat} (hB : B0 = w.heap.size) (hgn : B0 < gN) (hgrown : w.grownBy wq none)
    (hmark : wq.ownsRow B0 4 1 (.slice (some ⟨B0, 0, none⟩) n n) n (fl n fun k => .bool (badf ys k))) {F G : Nat → Prop} {vb vf : Nat → Value}
    (hgd : Grid wq G v1 (r + 1) (fun j => nowL xss n (S xss n (badf ys) j)) vf)
    (hFb : ∀ x, F x → B0 < x ∧ x < wq.heap.size ∧ x ≠ gN) (hGb : ∀ x, G x → B0 < x ∧ x < wq.heap.size ∧ x ≠ gN) (hFG : ∀ x, F x → ¬ G x) (hub : ∀ g, u.ownBlock = some g → G g)
    (hnow : wq.ownsRow 0 3 1 u L (ints (nowL xss n (S xss n (badf ys) r)))) (hc2 : Chg F wq w2)
    (hbd2 : Board w2 F b g1 g2 g3 n (part xss n (badf ys) (S xss n (badf ys) r) (j + 1)) (fun k => (lackOf xss (part xss n (badf ys) (S xss n (badf ys) r) (j + 1)) k : Int)) (abv xss n) vb)
    (hc3 : Chg (fun x => x = gN) w2 w3) (hnx : w3.ownsRow B0 4 1 (.slice (some ⟨gN, 0, none⟩) n n) n (fl n fun k => .bool (mk xss n (badf ys) (S xss n (badf ys) r) (j + 1) k))) :
    AInv xss ys n B0 b g1 g2 g3 gN r L w w3 v1 u (j + 1) := by
  have hall : Chg (fun x => F x ∨ x = gN) wq w3 := (hc2.mono fun x e => .inl e).trans hc3 (fun x e => .inl (.inr e))
  have hsz := hall.size
  refine ⟨grow_chg hgrown hall (fun x e => ?_), hall.owns hmark (fun g e h => ?_), hnx, ⟨F, G, vb, vf, hbd2.other hc3 (fun x e h => absurd e (hFb x h).2.2), hgd.other hall (fun x e h => ?_), ?_, ?_, hFG, hub⟩, hall.owns hnow (fun g e h => ?_), hgn⟩
  · rcases e with e | e
    · have := (hFb x e).1; omega
    · omega
  · have e : some B0 = some g := e
    cases e
    rcases h with h | h
    · have := (hFb _ h).1; omega
    · omega
  · rcases e with e | e
    · exact absurd h (hFG x e)
    · exact absurd e (hGb x h).2.2
  · intro x hx; have := hFb x hx; omega
  · intro x hx; have := hGb x hx; omega
  · have hg := hub g e
    rcases h with h | h
    · exact hFG g h hg
    · exact (hGb g hg).2.2 h

theorem abv_getD {xss : List (List Int)} {u m j : Nat} (hj : j < (abv xss m u).length) : 0 ≤ (abv xss m u).getD j 0 ∧ (abv xss m u).getD j 0 < (m : Int) := by
  rw [List.getD_eq_getElem?_getD, List.getElem?_eq_getElem hj, Option.getD_some]
  exact abv_in u m _ (List.getElem_mem hj)

theorem lack_le {xss : List (List Int)} (st : Nat → Int) (k : Nat) : lackOf xss st k ≤ (row xss k).length := List.countP_le_length

theorem now_at {xss : List (List Int)} {n : Nat} {st : Nat → Int} {j : Nat} (hj : j < (nowL xss n st).length) : ∃ i : Nat, (nowL xss n st)[j]? = some (i : Int) ∧ (ints (nowL xss n st))[j]? = some (.int .i64 (i : Int)) ∧ i < n := by
  obtain ⟨i, h1, _, h2, _⟩ := those_nat (isNow xss st) n hj
  exact ⟨i, h1, by unfold ints; rw [List.getElem?_map]; show Option.map _ (nowL xss n st)[j]? = _; unfold nowL; rw [h1]; rfl, h2⟩

theorem fl_congr {α : Type} {n : Nat} {f g : Nat → α} (h : ∀ k, k < n → f k = g k) : fl n f = fl n g := by
  unfold fl
  apply List.map_congr_left
  intro k hk
  exact h k (List.mem_range.1 hk)

theorem lack_ge {xss : List (List Int)} (st : Nat → Int) {k : Nat} (h : xss.length ≤ k) : lackOf xss st k = 0 := by
  unfold lackOf row
  rw [List.getD_eq_getElem?_getD, List.getElem?_eq_none h]
  rfl

theorem hits_in (lk : Nat → Int) (ks : List Int) : ∀ j, j ≤ ks.length → ∀ x ∈ hits lk ks j, x ∈ ks
  | 0, _, x, h => by cases h
  | j + 1, hj, x, h => by
    unfold hits at h
    split at h
    · rcases List.mem_append.1 h with h | h
      · exact hits_in lk ks j (by omega) x h
      · rw [List.mem_singleton.1 h, List.getD_eq_getElem?_getD, List.getElem?_eq_getElem (by omega), Option.getD_some]
        exact List.getElem_mem _
    · exact hits_in lk ks j (by omega) x h

theorem lk_failed {xss : List (List Int)} {n : Nat} {bad : Nat → Bool} (hn : n = xss.length) (hwf : Wf xss n) {st : Nat → Int} {j i : Nat} (hi : (nowL xss n st)[j]? = some (i : Int)) (hb : bad i = true) :
    (fun k => (lackOf xss (part xss n bad st (j + 1)) k : Int)) = fun k => (lackOf xss (part xss n bad st j) k : Int) := by
  funext k
  by_cases hk : k < n
  · have := lack_step (bad := bad) hwf st hk hi
    rw [if_neg (by unfold how; rw [hb]; decide)] at this
    rw [← this]; rfl
  · rw [lack_ge _ (by omega), lack_ge _ (by omega)]

theorem count_abv {xss : List (List Int)} {n : Nat} (hn : n = xss.length) (i k : Nat) : (abv xss n i).count (k : Int) = (row xss k).count (i : Int) := by
  rw [abv_count]
  by_cases hk : k < n
  · rw [if_pos hk]
  · rw [if_neg hk]
    unfold row
    rw [List.getD_eq_getElem?_getD, List.getElem?_eq_none (by omega)]
    rfl

theorem lk_bound {xss : List (List Int)} {n : Nat} {bad : Nat → Bool} (hn : n = xss.length) (hwf : Wf xss n) {st : Nat → Int} {j i : Nat} (hi : (nowL xss n st)[j]? = some (i : Int)) (hb : bad i = false) :
    (fun k => (lackOf xss (part xss n bad st (j + 1)) k : Int)) = low (fun k => (lackOf xss (part xss n bad st j) k : Int)) (abv xss n i) (abv xss n i).length ∧
    ∀ k : Nat, (((abv xss n i).count (k : Int) : Nat) : Int) ≤ (lackOf xss (part xss n bad st j) k : Int) := by
  have key : ∀ k, lackOf xss (part xss n bad st (j + 1)) k + (abv xss n i).count (k : Int) = lackOf xss (part xss n bad st j) k := fun k => by
    rw [count_abv hn]
    by_cases hk : k < n
    · have := lack_step (bad := bad) hwf st hk hi
      rw [if_pos (by unfold how; rw [hb]; rfl)] at this
      exact this
    · rw [lack_ge _ (by omega), lack_ge _ (by omega)]
      have : row xss k = [] := by unfold row; rw [List.getD_eq_getElem?_getD, List.getElem?_eq_none (by omega)]; rfl
      rw [this]; rfl
  refine ⟨funext fun k => ?_, fun k => ?_⟩
  · unfold low
    rw [List.take_length]
    have := key k
    dsimp only
    omega
  · have := key k
    omega

theorem marks_bound {xss : List (List Int)} {n : Nat} {bad : Nat → Bool} (hn : n = xss.length) (hwf : Wf xss n) {st : Nat → Int} {j i : Nat} (hi : (nowL xss n st)[j]? = some (i : Int)) (hb : bad i = false) {k : Nat} (hk : k < n) :
    (mk xss n bad st j k || decide ((k : Int) ∈ hits (fun k => (lackOf xss (part xss n bad st j) k : Int)) (abv xss n i) (abv xss n i).length)) = mk xss n bad st (j + 1) k := by
  rw [mk_bound hwf st hk hi (by unfold how; rw [hb]; rfl) _ rfl]
  congr 1
  have h := hits_mem (fun k => (lackOf xss (part xss n bad st j) k : Int)) (abv xss n i) (fun x hx => (abv_in i n x hx).1) k ((lk_bound hn hwf hi hb).2 k) _ (Nat.le_refl _)
  rw [List.take_length, count_abv hn] at h
  have hb' : ∀ a b : Bool, (a = true ↔ b = true) → a = b := by decide
  apply hb'
  rw [decide_eq_true_eq, decide_eq_true_eq, h]
  constructor
  · rintro ⟨h1, h2⟩; exact ⟨h1, by exact_mod_cast h2⟩
  · rintro ⟨h1, h2⟩; exact ⟨h1, by exact_mod_cast h2⟩

def lenOf : Value → Nat
  | .slice _ n _ => n
  | _ => 0

set_option maxHeartbeats 4000000 in
theorem Rounds_does (xss : List (List Int)) (hl : xss.length ≤ 1048576) (hs : ∀ j, (row xss j).length ≤ 1048576) (hab : ∀ k u, (abv xss k u).length ≤ 1048576) (ys : List Int) (hy : ys.length ≤ 1048576)
    (A D : Option Addr) (bA bD c d : Nat) (w : World) (hB : bA ≤ w.heap.size) (hB' : bD ≤ w.heap.size) (ha : LL w bA A xss) (hd : Reads w bD 1 D ys.length (ints ys)) :
    Calls Try.prog 12 #[.slice A xss.length c, .slice D ys.length d] w fun e w' => w.grownBy w' none ∧ Outcome w.heap.size xss ys e w' := by
  obtain ⟨i3, hi3, hz3, hs3, hb3⟩ := info3
  obtain ⟨i23, hi23, hz23, hs23, hb23⟩ := info23
  have hmay := fun w' (h : LL w' bA A xss) => may_says xss ⟨by omega, fun j => by have := hs j; omega⟩ A bA c w' h
  have hbeg := fun w' (hm : MayP xss) (hb : bA ≤ w'.heap.size) (h : LL w' bA A xss) => begun_does xss hl hs hab hm A bA c w' hb h
  obtain ⟨n, hn⟩ : ∃ n, n = xss.length := ⟨_, rfl⟩
  have hmk := fun (h : n ≤ 1048576) => run_make_row' (P := Try.prog) 49 4 (.bool false) 1 under49 info4m rfl .i64 .i64 n (by omega) (by omega)
  obtain ⟨m, hm⟩ : ∃ m, m = ys.length := ⟨_, rfl⟩
  obtain ⟨B0, hB0⟩ : ∃ B0, B0 = w.heap.size := ⟨_, rfl⟩
  have hmn : MayP xss → n ≤ 4096 := fun h => hn ▸ h.1
  rw [← hn] at hl hmay hbeg ⊢
  rw [← hB0] at hB hB' ⊢
  rw [← hm] at hd hy ⊢
  replace hn : Same n xss.length := hn
  replace hm : Same m ys.length := hm
  replace hB0 : Same B0 w.heap.size := hB0
  have hmk := hmk hl
  go_enter Try.func12, Try.ntmps12
  by_cases hP : MayP xss
  case neg =>
    go_wp2_with (go_at_call 37; refine (tells_false (hmay _ ha) hP).mono ?_; rintro e w1 ⟨rfl, q, rfl⟩)
    go_ret3
    exact ⟨⟨rfl, rfl, rfl, Nat.le_refl _, fun _ _ _ => rfl⟩, fun h => absurd h hP, fun _ => rfl⟩
  have hn4 := hmn hP
  have hmk : ∀ w, _ := hmk
  clear hmn
  go_wp2_with (go_at_call 37; refine (tells_true (hmay _ ha) hP).mono ?_; rintro e w1 ⟨rfl, q, rfl⟩)
  have hgq : w.grownBy (w.drewN q) none := ⟨rfl, rfl, rfl, Nat.le_refl _, fun _ _ _ => rfl⟩
  have hB2 : w.heap.size = B0 := by unfold Same at hB0; exact hB0.symm
  rw [hB2]
  replace hB2 : Same w.heap.size B0 := hB2
  go_loopw [4, 5, 30] (fun r4 r5 i wr => ∃ j, j ≤ m ∧ r4 = .slice none 0 0 ∧ r5 = .slice none 0 0 ∧ i = .int .i64 (j : Nat) ∧ w.grownBy wr none ∧ wr.ownsRow B0 4 1 (.slice (some ⟨B0, 0, none⟩) n n) n (fl n fun k => .bool (badf (ys.take j) k)) ∧ Held (∀ j', j' < j → 0 ≤ ys.getD j' 0 ∧ ys.getD j' 0 < (n : Int))) (fun _ _ i _ => m - (intOf i).toNat)
  case atStart =>
    unfold Same at hB2
    refine ⟨0, Nat.zero_le _, rfl, rfl, rfl, hgq.trans (World.grownBy_alloc _ _ none), ?_, fun _ h => by omega⟩
    have := mark_start (w := w.drewN q) (B := B0) (n := n) (by show B0 ≤ w.heap.size; omega) hl
    have e : (w.drewN q).heap.size = B0 := hB2
    rw [e] at this
    simpa [badf] using this
  case round =>
    obtain ⟨j, hj, rfl, rfl, rfl, hgw, hmark, hin⟩ := hrel
    by_cases hlt : j < m
    · obtain ⟨ad, u, rfl, hbl, hyy, hcu0⟩ := hd.at_ hlt
      obtain rfl := ints_at hyy
      have hkeep := keep_of_grown hgw (B := bD) (by unfold Same at hB2; omega) (by simp)
      have hcu := (hkeep _ (by rw [block_of_add]; exact hbl)).trans hcu0
      clear hcu0
      obtain ⟨u, hu⟩ : ∃ u, u = ys.getD j 0 := ⟨_, rfl⟩
      rw [← hu] at hcu
      replace hu : Same u (ys.getD j 0) := hu
      have hno : ¬ (0 ≤ u ∧ u < n) → ¬ (MayP xss ∧ BadP n ys) := fun hok h => by
        unfold Same at hu hm
        have := h.2 j (by omega)
        omega
      by_cases h1 : u < 0
      · have hno := hno (by omega)
        clear hs hab ha hmay hbeg hmk hmark hin hd hkeep hyy
        clear hmk
        go_wp2
        go_ret3
        exact ⟨hgw, out_bad (by unfold Same at hn; rw [← hn]; exact hno)⟩
      by_cases h2 : n ≤ u
      · have hno := hno (by omega)
        clear hs hab ha hmay hbeg hmk hmark hin hd hkeep hyy
        clear hmk
        go_wp2
        go_ret3
        exact ⟨hgw, out_bad (by unfold Same at hn; rw [← hn]; exact hno)⟩
      have hun : u.toNat < n := by omega
      have hck : wr.cell? ⟨B0, u.toNat, none⟩ = some (.bool (badf (ys.take j) u.toNat)) := by rw [hmark.cellAt u.toNat (by omega), fl_at _ hun]
      have hfr := hmark.frozenAt u.toNat
      obtain ⟨hmark2, hg2⟩ := mark_row (j := u.toNat) hmark
      clear hs hab ha hmay hbeg hmk hmark hd hkeep hyy
      clear hmk hno
      go_wp2
      go_roundw
      case rel =>
        unfold Same at hu hm hB2
        refine ⟨j + 1, by omega, rfl, rfl, by go_num, hgw.andThen hg2 (fun x e => .inl (by cases e; omega)), ?_, fun j' hj' => ?_⟩
        · have hx : ys[j]? = some ((u.toNat : Nat) : Int) := by rw [Int.toNat_of_nonneg (by omega), hu, List.getD_eq_getElem?_getD, List.getElem?_eq_getElem (by omega), Option.getD_some]
          have e : badf (ys.take (j + 1)) = upd1 (badf (ys.take j)) u.toNat true := funext (badf_take_succ hx)
          rw [e]; exact hmark2
        · rcases Nat.lt_or_ge j' j with h | h
          · exact hin j' h
          · obtain rfl : j' = j := by omega
            omega
      case measure => simp [intOf]; omega
    · obtain rfl : j = m := by omega
      have hBad : BadP n ys := fun j' hj' => hin j' (by unfold Same at hm; omega)
      have htk : ys.take j = ys := by unfold Same at hm; rw [hm, List.take_length]
      rw [htk] at hmark
      have hwf : Wf xss n := fun k hk u hu => by
        obtain ⟨i, hi, e⟩ := List.getElem_of_mem hu
        unfold Same at hn
        have := hP.2 k (by omega) i hi
        rw [List.getD_eq_getElem?_getD, List.getElem?_eq_getElem hi, Option.getD_some, e] at this
        omega
      have hkeepA := keep_of_grown hgw (B := bA) (by unfold Same at hB2; omega) (by simp)
      have hbw := hbeg wr hP (by have := hgw.size; unfold Same at hB2; omega) (ha.keep hkeepA)
      clear hd ha hmay hbeg hin hkeepA
      go_wp2_with (first
        | (go_at_call 38; refine hbw.mono ?_; rintro e w1 ⟨hg1, b, g1, g2, g3, F, vb, rfl, hF, hbd⟩; have hrd := ready_does hl hbd)
        | (go_at_call 39; refine hrd.mono ?_; rintro e w2 ⟨hg2, u, rfl, hu⟩))
      clear hbw hrd hgq
      obtain ⟨A0, c0, rfl, _⟩ := owns_slice hu
      have hR0 : RInv xss ys n B0 b g1 g2 g3 w w2 0 (.slice none 0 0) (.slice A0 (those (fun j => ((row xss j).length : Int) == 0) n).length c0) := by
        unfold Same at hB2
        have hsz := hgw.size
        have hbt := hbd.tight
        have hB0w : B0 < wr.heap.size := by have := (hmark.lt B0 rfl).2; exact this
        refine ⟨(hgw.andThen hg1 (by simp)).andThen hg2 (by simp), ?_, ⟨fun x => F x ∧ x < w1.heap.size, fun _ => False, vb, fun _ => undef, ?_, Grid.nil _ _ _ _, ?_, fun _ h => h.elim, fun _ _ h => h, ?_⟩, ?_, fun _ h => absurd h (Nat.not_lt_zero _), Nat.zero_le _⟩
        · exact ((hmark.kept hg1 (.inr (by simp [Value.ownBlock]))).kept hg2 (.inr (by simp [Value.ownBlock])))
        · have e : (fun k => (lackOf xss (S xss n (badf ys) 0) k : Int)) = fun j => ((row xss j).length : Int) := funext fun k => lack_zero k
          rw [e]
          exact hbt.other (Chg.of_grown hg2) (fun x e => by cases e)
        · intro x hx
          have := hF x hx.1
          have := hg2.size
          have := hx.2
          omega
        · intro g e
          have h1 := hu.lt g e
          refine ⟨fun h => ?_, fun h => h.elim, ?_⟩
          · have := h.2; omega
          · have := hg1.size; omega
        · rw [now_zero]; exact hu.mono (Nat.zero_le _)
      rw [← now_zero (bad := badf ys)] at hR0 ⊢
      clear hu hg1 hg2 hbd hF hmark hgw
      clear hmk
      go_loopw [4, 11] (fun v u wr => ∃ r A c A' c', v = .slice A' r c' ∧ u = .slice A (nowL xss n (S xss n (badf ys) r)).length c ∧ RInv xss ys n B0 b g1 g2 g3 w wr r v u) (fun v _ _ => n - lenOf v)
      case atStart => exact ⟨0, _, _, _, _, rfl, rfl, hR0⟩
      case round =>
        obtain ⟨r, A1, c1, A2, c2, rfl, rfl, hR⟩ := hrel
        obtain ⟨hgw, hmark, ⟨F, G, vb, vf, hbd, hgd, hFb, hGb, hFG, hub⟩, hnow, hsome, hle⟩ := hR
        clear hR0
        obtain ⟨L, hL⟩ : ∃ L, L = (nowL xss n (S xss n (badf ys) r)).length := ⟨_, rfl⟩
        rw [← hL] at hub hnow ⊢
        have hLn : L ≤ n := hL ▸ those_len _ _
        replace hL : Same L _ := hL
        have hrn : r ≤ n := Nat.le_trans hle (dones_le _)
        have hgs := hgd.s
        by_cases hz : 0 < L
        · go_wp2_with (first
            | (at_builtin; go_loud (refine wpList_append_any _ rfl (.tmp 53) (.tmp 55) 22 rfl 0 23 i23 _ 1 24 under22 hi23 hz23 hs23 hb23 rfl (by decide) _ _ _ rfl (hgs.alloc _) _ 1 1 _ [.slice A1 L c1] rfl (lit_reads _ _ _) (by simp [Value.oneCell']) (by unfold maxLen; omega) (by omega) (Nat.zero_le _) ?_); intro v1 w1 hv1 hg1 hb1))
          unfold Same at hL
          rw [hL] at hnow hub hv1
          have hA := ainv_start hl (by unfold Same at hB0; exact hB0) hgw hmark hbd hgd hFb hGb hFG hub hnow hv1 hg1 hb1
          rw [← hL] at hA hnow hub
          replace hL : Same L _ := hL
          clear hv1 hg1 hb1 hgw hmark hbd hgd hFb hGb hFG hub hnow hgs hj hlt hy hm
          obtain ⟨gN, hgN⟩ : ∃ gN, gN = w1.heap.size := ⟨_, rfl⟩
          rw [← hgN] at hA ⊢
          clear hgN
          go_loopw [62] (fun x wq => ∃ j, j ≤ L ∧ x = .int .i64 (j : Nat) ∧ AInv xss ys n B0 b g1 g2 g3 gN r L w wq v1 (.slice A1 L c1) j) (fun x _ => L - (intOf x).toNat)
          case atStart => exact ⟨0, Nat.zero_le _, rfl, hA⟩
          case round =>
            obtain ⟨j, hj, rfl, hgw, hmark, hnx, ⟨F, G, vb, vf, hbd, hgd, hFb, hGb, hFG, hub⟩, hnow, hgn⟩ := hrel
            clear hA
            by_cases hlt : j < L
            · obtain ⟨i, hi, hii, hin⟩ := now_at (xss := xss) (n := n) (st := S xss n (badf ys) r) (j := j) (by unfold Same at hL; omega)
              have hrow : Reads wr wr.heap.size 1 A1 L (ints (nowL xss n (S xss n (badf ys) r))) := by
                obtain ⟨A9, c9, e, h⟩ := owns_slice hnow
                cases e
                exact h _ hnow
              obtain ⟨ad, x, rfl, _, hx, hcx⟩ := hrow.at_ hlt
              rw [hii] at hx
              obtain rfl : Value.int .i64 (i : Int) = x := Option.some.inj hx
              clear hx hii hrow
              have hcm : wr.cell? ⟨B0, i, none⟩ = some (.bool (badf ys i)) := by rw [hmark.cellAt i (by omega), fl_at _ hin]
              by_cases hb : badf ys i = true
              · rw [hb] at hcm
                have hend := ended_failed hin hl hbd 2 (by decide)
                have hnn : n = xss.length := hn
                have hbd' := hbd
                have hlk := lk_failed hnn hwf hi hb
                have hpt := part_succ (bad := badf ys) (S xss n (badf ys) r) hi
                rw [show how (badf ys) i = 2 by unfold how; rw [hb]; rfl] at hpt
                have hnx2 : wr.ownsRow B0 4 1 (.slice (some ⟨gN, 0, none⟩) n n) n (fl n fun k => .bool (mk xss n (badf ys) (S xss n (badf ys) r) (j + 1) k)) := by
                  rw [fl_congr (g := fun k => .bool (mk xss n (badf ys) (S xss n (badf ys) r) j k)) fun k hk => by rw [mk_failed hwf _ hk hi (by unfold how; rw [hb]; decide)]]
                  exact hnx
                replace hlk : Held _ := hlk
                replace hpt : Held _ := hpt
                clear hnn hbd' hb
                go_wp2_with (go_at_call 40; refine hend.mono ?_; rintro e w2 ⟨hc2, rfl, hbd2⟩)
                go_loopw [75] (fun x wq => x = .int .i64 0 ∧ wq = w2) (fun _ _ => 0)
                case atStart => exact ⟨rfl, rfl⟩
                case round =>
                  obtain ⟨rfl, rfl⟩ := hrel
                  go_wp2
                  go_roundw
                  case rel =>
                    unfold Held at hlk hpt
                    rw [← hlk, ← hpt] at hbd2
                    exact ⟨j + 1, by omega, by go_num, ainv_next (by unfold Same at hB0; exact hB0) hgn hgw hmark hgd hFb hGb hFG hub hnow hc2 hbd2 (Chg.refl _ _) (hc2.owns hnx2 fun g e h => by have e : some gN = some g := e; cases e; exact (hFb _ h).2.2 rfl)⟩
                  case measure => simp [intOf]; omega
              · have hb : badf ys i = false := by simpa using hb
                rw [hb] at hcm
                have hnn : n = xss.length := hn
                obtain ⟨hlk, hcn⟩ := lk_bound hnn hwf hi hb
                have hend := ended_bound hin hl (fun x hx => (hFb x hx).2.1) hbd (fun j hj => abv_getD hj) (fun k _ => ⟨hcn k, by have := lack_le (xss := xss) (part xss n (badf ys) (S xss n (badf ys) r) j) k; have := hs k; omega⟩) (hab n i)
                have hpt := part_succ (bad := badf ys) (S xss n (badf ys) r) hi
                rw [show how (badf ys) i = 1 by unfold how; rw [hb]; rfl] at hpt
                have hmb := fun k (hk : k < n) => marks_bound hnn hwf hi hb hk
                have hhin : ∀ x ∈ hits (fun k => (lackOf xss (part xss n (badf ys) (S xss n (badf ys) r) j) k : Int)) (abv xss n i) (abv xss n i).length, 0 ≤ x ∧ x < (n : Int) := fun x hx => abv_in i n x (hits_in _ _ _ (Nat.le_refl _) x hx)
                have hhl := hits_len (fun k => (lackOf xss (part xss n (badf ys) (S xss n (badf ys) r) j) k : Int)) (abv xss n i) (abv xss n i).length
                have hhl2 := hab n i
                obtain ⟨hs0, hhs⟩ : ∃ hs0, hs0 = hits (fun k => (lackOf xss (part xss n (badf ys) (S xss n (badf ys) r) j) k : Int)) (abv xss n i) (abv xss n i).length := ⟨_, rfl⟩
                rw [← hhs] at hhin hhl
                simp only [← hhs] at hmb
                rw [← hhs, ← hlk, ← hpt] at hend
                obtain ⟨M, hM⟩ : ∃ M, M = hs0.length := ⟨_, rfl⟩
                rw [← hM] at hend hhl
                have hMl : M ≤ 1048576 := by omega
                replace hmb : Held _ := hmb
                replace hM : Same M hs0.length := hM
                replace hhin : Held _ := hhin
                clear hnn hb hcn hlk hpt hhs hhl hhl2
                go_wp2_with (go_at_call 40; refine hend.mono ?_; rintro e w2 ⟨hc2, vh, rfl, hbd2, hvh⟩; obtain ⟨Ah, ch, rfl, _⟩ := owns_slice hvh)
                clear hend
                have hnx2 : w2.ownsRow B0 4 1 (.slice (some ⟨gN, 0, none⟩) n n) n (fl n fun k => .bool (mk xss n (badf ys) (S xss n (badf ys) r) j k)) := hc2.owns hnx fun g e h => by have e : some gN = some g := e; cases e; exact (hFb _ h).2.2 rfl
                have hgNlt : gN < wr.heap.size := (hnx.lt gN rfl).2
                go_loopw [75] (fun x wq => ∃ t, t ≤ M ∧ x = .int .i64 (t : Nat) ∧ Chg (fun x => x = gN) w2 wq ∧ wq.ownsRow B0 4 1 (.slice (some ⟨gN, 0, none⟩) n n) n (fl n fun k => .bool (mk xss n (badf ys) (S xss n (badf ys) r) j k || decide ((k : Int) ∈ hs0.take t)))) (fun x _ => M - (intOf x).toNat)
                case atStart => exact ⟨0, Nat.zero_le _, rfl, Chg.refl _ _, by simpa using hnx2⟩
                case round =>
                  obtain ⟨t, ht, rfl, hc3, hnx3⟩ := hrel
                  by_cases hltt : t < M
                  · have hvh3 := hc3.owns hvh (fun g e h => by have := (hvh.lt g e).1; omega)
                    have hrow : Reads wr wr.heap.size 1 Ah M (ints hs0) := by
                      obtain ⟨A9, c9, e, h⟩ := owns_slice hvh3
                      cases e
                      exact h _ hvh3
                    obtain ⟨hd2, x, rfl, _, hx, hcx2⟩ := hrow.at_ hltt
                    obtain rfl := ints_at hx
                    unfold Held at hhin
                    unfold Same at hM
                    have hxx : hs0[t]? = some (hs0.getD t 0) := by rw [List.getD_eq_getElem?_getD, List.getElem?_eq_getElem (by omega), Option.getD_some]
                    obtain ⟨hx0, hx1⟩ := hhin _ (List.mem_of_getElem? hxx)
                    replace hM : Same M hs0.length := hM
                    replace hhin : Held _ := hhin
                    obtain ⟨k0, hk0⟩ : ∃ k0 : Nat, hs0.getD t 0 = (k0 : Int) := Int.eq_ofNat_of_zero_le hx0
                    rw [hk0] at hcx2 hxx hx1
                    have hk0n : k0 < n := by omega
                    have hck : wr.cell? ⟨gN, k0, none⟩ = some (.bool (mk xss n (badf ys) (S xss n (badf ys) r) j k0 || decide ((k0 : Int) ∈ hs0.take t))) := by rw [hnx3.cellAt k0 (by omega), fl_at _ hk0n]
                    have hfk := hnx3.frozenAt k0
                    obtain ⟨hnx4, hg4⟩ := mark_row (j := k0) hnx3
                    have hc4 : Chg (fun x => x = gN) w2 _ := hc3.trans (Chg.of_grown hg4) (fun x e => .inl (by cases e; rfl))
                    have e4 : upd1 (fun k => mk xss n (badf ys) (S xss n (badf ys) r) j k || decide ((k : Int) ∈ hs0.take t)) k0 true = fun k => mk xss n (badf ys) (S xss n (badf ys) r) j k || decide ((k : Int) ∈ hs0.take (t + 1)) := by
                      funext k
                      unfold upd1
                      rw [take_succ_at hxx]
                      by_cases hk : k = k0
                      · subst hk; simp
                      · rw [if_neg hk]
                        have hmm : ((k : Int) ∈ hs0.take t ++ [(k0 : Int)]) ↔ (k : Int) ∈ hs0.take t := by
                          rw [List.mem_append, List.mem_singleton]
                          exact ⟨fun e => e.resolve_right (by omega), .inl⟩
                        rw [decide_eq_decide.2 hmm]
                    rw [e4] at hnx4
                    replace hxx : True := trivial
                    clear hx0 hx1 hx hrow hk0 e4 hnx3 hvh3 hnx2 hg4
                    go_wp2
                    go_roundw
                    case rel => exact ⟨t + 1, by omega, by go_num, hc4, hnx4⟩
                    case measure => simp [intOf]; omega
                  · obtain rfl : t = M := by omega
                    go_wp2
                    go_roundw
                    case rel =>
                      unfold Held at hmb
                      unfold Same at hM hB0
                      rw [hM, List.take_length] at hnx3
                      rw [fl_congr (g := fun k => Value.bool (mk xss n (badf ys) (S xss n (badf ys) r) (j + 1) k)) fun k hk => by rw [hmb k hk]] at hnx3
                      exact ⟨j + 1, by omega, by go_num, ainv_next hB0 hgn hgw hmark hgd hFb hGb hFG hub hnow hc2 hbd2 hc3 hnx3⟩
                    case measure => simp [intOf]; omega
            · obtain rfl : j = L := by omega
              have hLe : nowL xss n (S xss n (badf ys) r) ≠ [] := fun e => by unfold Same at hL; rw [e] at hL; simp at hL; omega
              have hpa : part xss n (badf ys) (S xss n (badf ys) r) j = S xss n (badf ys) (r + 1) := by unfold Same at hL; rw [hL, part_all]; rfl
              have hma : ∀ k, k < n → mk xss n (badf ys) (S xss n (badf ys) r) j k = isNow xss (S xss n (badf ys) (r + 1)) k := fun k hk => by unfold Same at hL; rw [hL]; exact mk_all hwf (inv_S hwf r) hk
              have hdn : r + 1 ≤ dones n (S xss n (badf ys) (r + 1)) := Nat.lt_of_le_of_lt hle (dones_nxt _ hLe)
              rw [fl_congr (g := fun k => Value.bool (isNow xss (S xss n (badf ys) (r + 1)) k)) fun k hk => by rw [hma k hk]] at hnx
              rw [hpa] at hbd
              have hsome2 : ∀ r', r' < r + 1 → nowL xss n (S xss n (badf ys) r') ≠ [] := fun r' h => by
                rcases Nat.lt_or_ge r' r with h' | h'
                · exact hsome r' h'
                · obtain rfl : r' = r := by omega
                  exact hLe
              obtain ⟨A8, c8, hv8, _⟩ := owns_slice hgd.s
              have hrn2 : r + 1 ≤ n := Nat.le_trans hdn (dones_le _)
              obtain ⟨p, hp⟩ : ∃ p, p = isNow xss (S xss n (badf ys) (r + 1)) := ⟨_, rfl⟩
              rw [← hp] at hnx
              have hpn : nowL xss n (S xss n (badf ys) (r + 1)) = those p n := by rw [hp]; rfl
              replace hpn : Same _ (those p n) := hpn
              replace hv8 : Same v1 (.slice A8 (r + 1) c8) := hv8
              replace hsome2 : Held _ := hsome2
              replace hdn : Held _ := hdn
              clear hp hma hpa hLe hsome hle
              obtain ⟨W, hW⟩ : ∃ W, W = wr := ⟨_, rfl⟩
              obtain ⟨HW, hHW⟩ : ∃ HW, HW = wr.heap.size := ⟨_, rfl⟩
              replace hHW : Same HW wr.heap.size := hHW
              go_wp2
              go_loopw [11, 86] (fun u x wq => ∃ k, k ≤ n ∧ x = .int .i64 (k : Nat) ∧ W.grownBy wq none ∧ wq.ownsRow HW 3 1 u (those p k).length (ints (those p k))) (fun _ x _ => n - (intOf x).toNat)
              case atStart => exact ⟨0, Nat.zero_le _, rfl, by rw [hW]; exact World.grownBy.refl _ _, World.ownsRow_nil _ _ _ _⟩
              case round =>
                obtain ⟨k, hk, rfl, hgk, hown⟩ := hrel
                rw [← hW] at hHW hnx hnow hgd hbd hmark hgw hFb hGb
                replace hW : True := trivial
                have hsz := hgk.size
                have hB1 : HW ≤ wr.heap.size := by unfold Same at hHW; omega
                by_cases hltk : k < n
                · have hx : wr.cell? ⟨gN, k, none⟩ = some (.bool (p k)) := (hgk.cell_far _ (hnx.lt gN rfl).2 (by simp)).trans (by rw [hnx.cellAt k (by omega), fl_at _ hltk])
                  have hlen := those_len p k
                  have hstep := those_succ p k
                  have hints := those_ints p k
                  obtain ⟨zs, hzs⟩ : ∃ zs, zs = those p k := ⟨_, rfl⟩
                  rw [← hzs] at hlen hown hstep hints
                  replace hzs : Same zs (those p k) := hzs
                  by_cases hpk : p k = true
                  · rw [if_pos hpk] at hstep hints
                    replace hstep : Same (those p (k + 1)) (zs ++ [(k : Int)]) := hstep
                    replace hints : Same (ints (those p (k + 1))) (ints zs ++ [.int .i64 (k : Int)]) := hints
                    rw [hpk] at hx
                    clear hpk
                    go_wp2_with (at_builtin; refine wpList_append_any _ rfl (.tmp 92) (.tmp 94) 23 rfl HW 3 i3 _ 1 8 under23 hi3 hz3 hs3 hb3 rfl (by decide) _ _ _ rfl (hown.alloc _) _ 1 1 _ [.int .i64 k] rfl (lit_reads _ _ _) (by simp [Value.oneCell']) (by unfold maxLen; omega) (by omega) (by simp; omega) ?_; intro v9 w9 hv9 hg9 hb9)
                    go_roundw
                    case rel =>
                      unfold Same at hstep hints hHW
                      refine ⟨k + 1, by omega, by go_num, (hgk.andThen (World.grownBy_alloc wr _ none) (by simp)).andThen hg9 (fun j hj => .inl (by rw [← hHW]; exact (hown.lt j hj).1)), ?_⟩
                      rw [hints, hstep, List.length_append]
                      exact hv9
                    case measure => simp [intOf]; omega
                  · have hpf : p k = false := by simpa using hpk
                    rw [if_neg hpk] at hstep hints
                    replace hstep : Same (those p (k + 1)) zs := hstep
                    rw [hpf] at hx
                    clear hpk hpf hints
                    go_wp2
                    go_roundw
                    case rel =>
                      unfold Same at hstep
                      refine ⟨k + 1, by omega, by go_num, hgk, ?_⟩
                      rw [hstep]
                      exact hown
                    case measure => simp [intOf]; omega
                · obtain rfl : k = n := by omega
                  obtain ⟨A7, c7, hu7, _⟩ := owns_slice hown
                  unfold Same at hv8
                  subst hv8 hu7
                  go_wp2
                  go_roundw
                  case rel =>
                    unfold Same at hpn hHW
                    unfold Held at hsome2 hdn
                    have hc := Chg.of_grown hgk
                    refine ⟨r + 1, _, _, _, _, rfl, by rw [hpn], ⟨hgw.trans hgk, hmark.kept hgk (.inr (by simp [Value.ownBlock])), ⟨F, G, vb, vf, hbd.other hc (fun x e => by cases e), hgd.other hc (fun x e => by cases e), ?_, ?_, hFG, ?_⟩, ?_, hsome2, hdn⟩⟩
                    · intro x hx; have := hFb x hx; omega
                    · intro x hx; have := hGb x hx; omega
                    · intro g e
                      have := (hown.lt g e).1
                      refine ⟨fun h => ?_, fun h => ?_, ?_⟩
                      · have := hFb g h; omega
                      · have := hGb g h; omega
                      · have := (hnx.lt gN rfl).2; omega
                    · rw [hpn]; exact hown.mono (Nat.zero_le _)
                  case measure => simp [lenOf]; omega
        · have hLe : nowL xss n (S xss n (badf ys) r) = [] := by
            unfold Same at hL
            exact List.length_eq_zero_iff.1 (by omega)
          have hst : Stops xss n (badf ys) r := ⟨hLe, hsome⟩
          obtain rfl : L = 0 := by omega
          obtain ⟨hc0, hc1, hc2⟩ := hbd.cells
          obtain ⟨st, hstt⟩ : ∃ st, st = S xss n (badf ys) r := ⟨_, rfl⟩
          obtain ⟨W, hW⟩ : ∃ W, W = wr := ⟨_, rfl⟩
          obtain ⟨HW, hHW⟩ : ∃ HW, HW = wr.heap.size := ⟨_, rfl⟩
          replace hHW : Same HW wr.heap.size := hHW
          have hc0W : W.cell? ⟨b, 0, none⟩ = some (.slice (some ⟨g1, 0, none⟩) n n) := by rw [hW]; exact hc0
          have hbd1 : ∀ k, k < n → W.cell? ⟨g1, k, none⟩ = some (.int .u8 (st k)) := fun k hk => by rw [hW, hstt]; exact hbd.at1 hk
          have hg1lt : g1 < W.heap.size := by rw [hW]; exact (hbd.s1.lt g1 rfl).2
          rw [← hstt] at hbd
          clear hLe hsome hL hz hgs
          replace hstt : Same st _ := hstt
          replace hst : Held _ := hst
          replace hbd1 : Held _ := hbd1
          go_wp2
          go_loopw [5, 102] (fun u x wq => ∃ k, k ≤ n ∧ x = .int .i64 (k : Nat) ∧ W.grownBy wq none ∧ wq.ownsRow HW 3 1 u (those (fun k => st k == 0) k).length (ints (those (fun k => st k == 0) k))) (fun _ x _ => n - (intOf x).toNat)
          case atStart => exact ⟨0, Nat.zero_le _, rfl, by rw [hW]; exact World.grownBy.refl _ _, World.ownsRow_nil _ _ _ _⟩
          case round =>
            obtain ⟨k, hk, rfl, hgk, hown⟩ := hrel
            rw [← hW] at hHW hnow hgd hbd hmark hgw hFb hGb
            replace hW : True := trivial
            have hsz := hgk.size
            have hB1 : HW ≤ wr.heap.size := by unfold Same at hHW; omega
            by_cases hltk : k < n
            · have hx : wr.cell? ⟨g1, k, none⟩ = some (.int .u8 (st k)) := (hgk.cell_far _ hg1lt (by simp)).trans (hbd1 k hltk)
              have hlen := those_len (fun k => st k == 0) k
              have hstep := those_succ (fun k => st k == 0) k
              have hints := those_ints (fun k => st k == 0) k
              obtain ⟨zs, hzs⟩ : ∃ zs, zs = those (fun k => st k == 0) k := ⟨_, rfl⟩
              rw [← hzs] at hlen hown hstep hints
              replace hzs : Same zs (those (fun k => st k == 0) k) := hzs
              by_cases hpk : st k = 0
              · rw [if_pos (by simpa using hpk)] at hstep hints
                replace hstep : Same (those (fun k => st k == 0) (k + 1)) (zs ++ [(k : Int)]) := hstep
                replace hints : Same (ints (those (fun k => st k == 0) (k + 1))) (ints zs ++ [.int .i64 (k : Int)]) := hints
                rw [hpk] at hx
                clear hpk
                go_wp2_with (at_builtin; refine wpList_append_any _ rfl (.tmp 109) (.tmp 111) 23 rfl HW 3 i3 _ 1 8 under23 hi3 hz3 hs3 hb3 rfl (by decide) _ _ _ rfl (hown.alloc _) _ 1 1 _ [.int .i64 k] rfl (lit_reads _ _ _) (by simp [Value.oneCell']) (by unfold maxLen; omega) (by omega) (by simp; omega) ?_; intro v9 w9 hv9 hg9 hb9)
                go_roundw
                case rel =>
                  unfold Same at hstep hints hHW
                  refine ⟨k + 1, by omega, by go_num, (hgk.andThen (World.grownBy_alloc wr _ none) (by simp)).andThen hg9 (fun j hj => .inl (by rw [← hHW]; exact (hown.lt j hj).1)), ?_⟩
                  rw [hints, hstep, List.length_append]
                  exact hv9
                case measure => simp [intOf]; omega
              · have hpf : (st k == 0) = false := by simpa using hpk
                rw [if_neg (by simpa using hpk)] at hstep hints
                replace hstep : Same (those (fun k => st k == 0) (k + 1)) zs := hstep
                clear hpk hints
                go_wp2
                go_roundw
                case rel =>
                  unfold Same at hstep
                  refine ⟨k + 1, by omega, by go_num, hgk, ?_⟩
                  rw [hstep]
                  exact hown
                case measure => simp [intOf]; omega
            · obtain rfl : k = n := by omega
              go_wp2
              go_ret3
              unfold Same at hstt hn hB0 hHW
              subst hn hstt
              refine ⟨hgw.trans hgk, fun _ _ => ⟨r, G, _, vf, _, rfl, hst, hgd.other (Chg.of_grown hgk) (fun x e => by cases e), fun g h => by have := (hGb g h).1; omega, hown.mono (Nat.zero_le _), fun g e => ?_⟩, fun h => absurd ⟨hP, hBad⟩ h⟩
              have h1 := (hown.lt g e).1
              exact ⟨fun h => by have := hGb g h; omega, by have := (hmark.lt B0 rfl).2; omega⟩
end Go.Proofs.Ytoilhpmimcbniaa

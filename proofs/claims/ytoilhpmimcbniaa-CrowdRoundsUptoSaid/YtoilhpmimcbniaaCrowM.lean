/- The document's Rounds. -/
import Derived.Test.YtoilhpmimcbniaaCrowL
namespace Go.Proofs.Ytoilhpmimcbniaa
open Go.RowKit

theorem set_row {w : World} {B g n j : Nat} {p : Nat → Int} (x : Int) (h : w.ownsRow B 5 1 (.slice (some ⟨g, 0, none⟩) n n) n (fl n fun k => .int .u8 (p k))) :
    (w.setCell ⟨g, j, none⟩ (.int .u8 x)).ownsRow B 5 1 (.slice (some ⟨g, 0, none⟩) n n) n (fl n fun k => .int .u8 (upd1 p j x k)) ∧ w.grownBy (w.setCell ⟨g, j, none⟩ (.int .u8 x)) (some g) := by
  obtain ⟨h1, h2⟩ := h.stored j (.int .u8 x)
  rw [fl_set, fl_upd_map (Value.int .u8)] at h1
  exact ⟨h1, h2⟩

theorem zero_row {w : World} {B n : Nat} (hB : B ≤ w.heap.size) (hn : n ≤ 1048576) : (w.alloc (.cells (madeCells #[.int .u8 0] n) 5)).ownsRow B 5 1 (.slice (some ⟨w.heap.size, 0, none⟩) n n) n (fl n fun _ => .int .u8 0) := by
  have := World.ownsRow_lit (base := B) (size := 1) (e := 5) w (madeCells #[.int .u8 0] n) n hB (by unfold maxLen; omega) (by rw [size_madeCells]; omega)
  rwa [made_fl] at this

theorem fl_bytes (n : Nat) (f : Nat → Int) : bytes (fl n f) = fl n fun k => .int .u8 (f k) := by unfold bytes fl; rw [List.map_map]; rfl
theorem fl_getD {n k : Nat} {α : Type} (f : Nat → α) (d : α) (hk : k < n) : (fl n f).getD k d = f k := by rw [List.getD_eq_getElem?_getD, fl_at _ hk, Option.getD_some]

theorem lack_ready {xss : List (List Int)} {n : Nat} (hwf : Wf xss n) (st : Nat → Int) {k : Nat} (hk : k < n) : (∀ j, j < (row xss k).length → (fl n st).getD ((row xss k).getD j 0).toNat 0 = 1) ↔ lackOf xss st k = 0 := by
  unfold lackOf
  rw [List.countP_eq_zero]
  constructor
  · intro h u hu
    obtain ⟨j, hj, e⟩ := List.getElem_of_mem hu
    have h1 := h j hj
    have h2 := hwf k hk u hu
    rw [List.getD_eq_getElem?_getD (l := row xss k), List.getElem?_eq_getElem hj, Option.getD_some, e, fl_getD _ _ (by omega)] at h1
    simp [h1]
  · intro h j hj
    have hm := List.getElem_mem hj
    have h1 := h _ hm
    have h2 := hwf k hk _ hm
    rw [List.getD_eq_getElem?_getD (l := row xss k), List.getElem?_eq_getElem hj, Option.getD_some, fl_getD _ _ (by omega)]
    simpa using h1

theorem how_take_succ {ys : List Int} {j : Nat} {u : Nat} (h : ys[j]? = some (u : Int)) : how (badf (ys.take (j + 1))) = upd1 (how (badf (ys.take j))) u 2 := by
  funext k
  unfold how
  rw [badf_take_succ h]
  unfold upd1
  by_cases hk : k = u
  · subst hk; simp
  · rw [if_neg hk]; simp only [if_neg hk]

theorem drewN_grown (w : World) (q : Nat) : w.grownBy (w.drewN q) none := ⟨rfl, rfl, rfl, Nat.le_refl _, fun _ _ _ => rfl⟩

/-- What holds at the head of the rounds' loop. -/
structure FInv (xss : List (List Int)) (ys : List Int) (n B0 gS : Nat) (w wr : World) (r : Nat) (v : Value) : Prop where
  grown : w.grownBy wr none
  ends : wr.ownsRow B0 5 1 (.slice (some ⟨B0, 0, none⟩) n n) n (fl n fun k => .int .u8 (how (badf ys) k))
  states : wr.ownsRow B0 5 1 (.slice (some ⟨gS, 0, none⟩) n n) n (fl n fun k => .int .u8 (S xss n (badf ys) r k))
  ex : ∃ G vf, Grid wr G v r (fun j => nowL xss n (S xss n (badf ys) j)) vf ∧ (∀ x, G x → gS < x ∧ x < wr.heap.size)
  some : ∀ r', r' < r → nowL xss n (S xss n (badf ys) r') ≠ []
  le : r ≤ dones n (S xss n (badf ys) r)

set_option maxHeartbeats 4000000 in
theorem RefRounds_does (xss : List (List Int)) (hl : xss.length ≤ 1048576) (hs : ∀ j, (row xss j).length ≤ 1048576) (ys : List Int) (hy : ys.length ≤ 1048576)
    (A D : Option Addr) (bA bD c d : Nat) (w : World) (hB : bA ≤ w.heap.size) (hB' : bD ≤ w.heap.size) (ha : LL w bA A xss) (hd : Reads w bD 1 D ys.length (ints ys)) :
    Calls Try.prog 11 #[.slice A xss.length c, .slice D ys.length d] w fun e w' => w.grownBy w' none ∧ Outcome w.heap.size xss ys e w' := by
  obtain ⟨i3, hi3, hz3, hs3, hb3⟩ := info3
  obtain ⟨i23, hi23, hz23, hs23, hb23⟩ := info23
  have hmay := fun w' (h : LL w' bA A xss) => May_says xss ⟨by omega, fun j => by have := hs j; omega⟩ A bA c w' h
  obtain ⟨n, hn⟩ : ∃ n, n = xss.length := ⟨_, rfl⟩
  have hmk := fun (h : n ≤ 1048576) => run_make_row' (P := Try.prog) 35 5 (.int .u8 0) 1 under35 info5m rfl .i64 .i64 n (by omega) (by omega)
  obtain ⟨m, hm⟩ : ∃ m, m = ys.length := ⟨_, rfl⟩
  obtain ⟨B0, hB0⟩ : ∃ B0, B0 = w.heap.size := ⟨_, rfl⟩
  have hmn : MayP xss → n ≤ 4096 := fun h => hn ▸ h.1
  have ha' := fun j (hj : j < n) => ha.at_ (hn ▸ hj)
  rw [← hn] at hl hmay ⊢
  rw [← hB0] at hB hB' ⊢
  rw [← hm] at hd hy ⊢
  replace hn : Same n xss.length := hn
  replace hm : Same m ys.length := hm
  replace hB0 : Same B0 w.heap.size := hB0
  have hmk := hmk hl
  go_enter Try.func11, Try.ntmps11
  by_cases hP : MayP xss
  case neg =>
    go_wp2_with (go_at_call 18; refine (tells_false (hmay _ ha) hP).mono ?_; rintro e w1 ⟨rfl, q, rfl⟩)
    go_ret3
    exact ⟨⟨rfl, rfl, rfl, Nat.le_refl _, fun _ _ _ => rfl⟩, fun h => absurd h hP, fun _ => rfl⟩
  have hn4 := hmn hP
  have hwf : Wf xss n := fun k hk u hu => by
    obtain ⟨i, hi, e⟩ := List.getElem_of_mem hu
    unfold Same at hn
    have := hP.2 k (by omega) i hi
    rw [List.getD_eq_getElem?_getD, List.getElem?_eq_getElem hi, Option.getD_some, e] at this
    omega
  have hmk : ∀ w, _ := hmk
  clear hmn
  replace ha' : Held _ := ha'
  go_wp2_with (go_at_call 18; refine (tells_true (hmay _ ha) hP).mono ?_; rintro e w1 ⟨rfl, q, rfl⟩)
  have hgq : w.grownBy (w.drewN q) none := ⟨rfl, rfl, rfl, Nat.le_refl _, fun _ _ _ => rfl⟩
  have hB2 : w.heap.size = B0 := by unfold Same at hB0; exact hB0.symm
  rw [hB2]
  replace hB2 : Same w.heap.size B0 := hB2
  clear hmay
  go_loopw [8] (fun x wr => ∃ j, j ≤ n ∧ x = .int .i64 (j : Nat) ∧ w.grownBy wr none ∧ wr.ownsRow B0 5 1 (.slice (some ⟨B0, 0, none⟩) n n) n (fl n fun k => .int .u8 (if k < j then 1 else 0))) (fun x _ => n - (intOf x).toNat)
  case atStart =>
    unfold Same at hB2
    refine ⟨0, Nat.zero_le _, rfl, hgq.trans (World.grownBy_alloc _ _ none), ?_⟩
    have := zero_row (w := w.drewN q) (B := B0) (n := n) (by show B0 ≤ w.heap.size; omega) hl
    have e : (w.drewN q).heap.size = B0 := hB2
    rw [e] at this
    simpa using this
  case round =>
    obtain ⟨j, hj, rfl, hgw, hrow⟩ := hrel
    by_cases hlt : j < n
    · have hck : wr.cell? ⟨B0, j, none⟩ = some (.int .u8 (if j < j then 1 else 0)) := by rw [hrow.cellAt j (by omega), fl_at _ hlt]
      have hfr := hrow.frozenAt j
      obtain ⟨hrow2, hg2⟩ := set_row (j := j) 1 hrow
      have e : upd1 (fun k => if k < j then (1 : Int) else 0) j 1 = fun k => if k < j + 1 then 1 else 0 := by
        funext k; unfold upd1
        by_cases hk : k = j
        · subst hk; simp
        · simp only [if_neg hk]
          by_cases h : k < j
          · rw [if_pos h, if_pos (by omega)]
          · rw [if_neg h, if_neg (by omega)]
      rw [e] at hrow2
      clear e hrow
      go_wp2
      go_roundw
      case rel =>
        unfold Same at hB2
        exact ⟨j + 1, by omega, by go_num, hgw.andThen hg2 (fun x e => .inl (by cases e; omega)), hrow2⟩
      case measure => simp [intOf]; omega
    · obtain rfl : n = j := by omega
      have hrow2 : wr.ownsRow B0 5 1 (.slice (some ⟨B0, 0, none⟩) n n) n (fl n fun k => .int .u8 (how (badf (ys.take 0)) k)) := by
        rw [fl_congr (g := fun k => Value.int .u8 (if k < n then 1 else 0)) fun k hk => by rw [if_pos hk]; simp [how, badf]]
        exact hrow
      clear hrow hlt hj hgq
      go_wp2
      go_loopw [9] (fun x wr => ∃ t, t ≤ m ∧ x = .int .i64 (t : Nat) ∧ w.grownBy wr none ∧ wr.ownsRow B0 5 1 (.slice (some ⟨B0, 0, none⟩) n n) n (fl n fun k => .int .u8 (how (badf (ys.take t)) k)) ∧ Held (∀ t', t' < t → 0 ≤ ys.getD t' 0 ∧ ys.getD t' 0 < (n : Int))) (fun x _ => m - (intOf x).toNat)
      case atStart => exact ⟨0, Nat.zero_le _, rfl, hgw, hrow2, fun _ h => by omega⟩
      case round =>
        obtain ⟨t, ht, rfl, hgw, hrow, hin⟩ := hrel
        by_cases hlt : t < m
        · obtain ⟨ad, u, rfl, hbl, hyy, hcu0⟩ := hd.at_ hlt
          obtain rfl := ints_at hyy
          have hkeep := keep_of_grown hgw (B := bD) (by unfold Same at hB2; omega) (by simp)
          have hcu := (hkeep _ (by rw [block_of_add]; exact hbl)).trans hcu0
          clear hcu0
          obtain ⟨u, hu⟩ : ∃ u, u = ys.getD t 0 := ⟨_, rfl⟩
          rw [← hu] at hcu
          replace hu : Same u (ys.getD t 0) := hu
          have hno : ¬ (0 ≤ u ∧ u < n) → ¬ (MayP xss ∧ BadP n ys) := fun hok h => by
            unfold Same at hu hm
            have := h.2 t (by omega)
            omega
          clear hd hkeep hyy hrow2
          clear hmk
          by_cases h1 : u < 0
          · have hno := hno (by omega)
            clear hs ha hin hrow
            go_wp2
            go_ret3
            exact ⟨hgw, out_bad (by unfold Same at hn; rw [← hn]; exact hno)⟩
          by_cases h2 : n ≤ u
          · have hno := hno (by omega)
            clear hs ha hin hrow
            go_wp2
            go_ret3
            exact ⟨hgw, out_bad (by unfold Same at hn; rw [← hn]; exact hno)⟩
          have hun : u.toNat < n := by omega
          have hck : wr.cell? ⟨B0, u.toNat, none⟩ = some (.int .u8 (how (badf (ys.take t)) u.toNat)) := by rw [hrow.cellAt u.toNat (by omega), fl_at _ hun]
          have hfr := hrow.frozenAt u.toNat
          obtain ⟨hrow2, hg2⟩ := set_row (j := u.toNat) 2 hrow
          have hx : ys[t]? = some ((u.toNat : Nat) : Int) := by unfold Same at hu hm; rw [Int.toNat_of_nonneg (by omega), hu, List.getD_eq_getElem?_getD, List.getElem?_eq_getElem (by omega), Option.getD_some]
          have e := how_take_succ hx
          rw [← e] at hrow2
          clear e hx hs ha hrow
          clear hno
          go_wp2
          go_roundw
          case rel =>
            unfold Same at hu hm hB2
            refine ⟨t + 1, by omega, by go_num, hgw.andThen hg2 (fun x e => .inl (by cases e; omega)), hrow2, fun j' hj' => ?_⟩
            rcases Nat.lt_or_ge j' t with h | h
            · exact hin j' h
            · obtain rfl : j' = t := by omega
              omega
          case measure => simp [intOf]; omega
        · obtain rfl : m = t := by omega
          have hBad : BadP n ys := fun j' hj' => hin j' (by unfold Same at hm; omega)
          have htk : ys.take m = ys := by unfold Same at hm; rw [hm, List.take_length]
          rw [htk] at hrow
          obtain ⟨gS, hgS⟩ : ∃ gS, gS = wr.heap.size := ⟨_, rfl⟩
          have hF0 : FInv xss ys n B0 gS w (wr.alloc (.cells (madeCells #[.int .u8 0] n) 5)) 0 (.slice none 0 0) := by
            have hlt := (hrow.lt B0 rfl).2
            refine ⟨hgw.trans (World.grownBy_alloc _ _ none), hrow.alloc _, ?_, ⟨fun _ => False, fun _ => undef, Grid.nil _ _ _ _, fun _ h => h.elim⟩, fun _ h => absurd h (Nat.not_lt_zero _), Nat.zero_le _⟩
            rw [hgS]
            exact zero_row (by omega) hl
          have hBgS : B0 < gS := by rw [hgS]; exact (hrow.lt B0 rfl).2
          clear hd hin hrow hrow2 hgw htk
          go_wp2
          rw [← hgS]
          clear hgS hmk
          go_loopw [10] (fun v wr => ∃ r A' c', v = .slice A' r c' ∧ FInv xss ys n B0 gS w wr r v) (fun v _ => n - lenOf v)
          case atStart => exact ⟨0, _, _, rfl, hF0⟩
          case round =>
            obtain ⟨r, A2, c2, rfl, hgw, hends, hstates, ⟨G, vf, hgd, hGb⟩, hsome, hle⟩ := hrel
            clear hF0
            have hrn : r ≤ n := Nat.le_trans hle (dones_le _)
            obtain ⟨st, hst⟩ : ∃ st, st = S xss n (badf ys) r := ⟨_, rfl⟩
            obtain ⟨W, hW⟩ : ∃ W, W = wr := ⟨_, rfl⟩
            obtain ⟨HW, hHW⟩ : ∃ HW, HW = wr.heap.size := ⟨_, rfl⟩
            replace hHW : Same HW wr.heap.size := hHW
            rw [← hst] at hstates hle
            have hkeepA := keep_of_grown hgw (B := bA) (by unfold Same at hB2; omega) (by simp)
            have hneeds : ∀ k, k < n → ∃ ad A' c', A = some ad ∧ W.cell? (ad.add k) = some (.slice A' (row xss k).length c') ∧ ad.block < W.heap.size ∧ Reads W bA 1 A' (row xss k).length (ints (row xss k)) := fun k hk => by
              obtain ⟨ad, A', c', e, hbl, h1, h2⟩ := ha' k hk
              have := hgw.size
              unfold Same at hB2
              exact ⟨ad, A', c', e, by rw [hW]; exact (hkeepA _ (by rw [block_of_add]; exact hbl)).trans h1, by rw [hW]; omega, by rw [hW]; exact h2.keep hkeepA⟩
            have hbAW : bA ≤ W.heap.size := by have := hgw.size; unfold Same at hB2; rw [hW]; omega
            replace hneeds : Held _ := hneeds
            replace hst : Same st _ := hst
            clear hkeepA ha
            go_wp2
            go_loopw [12, 13] (fun u x wq => ∃ k, k ≤ n ∧ x = .int .i64 (k : Nat) ∧ W.grownBy wq none ∧ wq.ownsRow HW 3 1 u (those (isNow xss st) k).length (ints (those (isNow xss st) k))) (fun _ x _ => n - (intOf x).toNat)
            case atStart => exact ⟨0, Nat.zero_le _, rfl, by rw [hW]; exact World.grownBy.refl _ _, World.ownsRow_nil _ _ _ _⟩
            case round =>
              obtain ⟨k, hk, rfl, hgk, hown⟩ := hrel
              rw [← hW] at hHW hends hstates hgd hgw hGb
              have hW0 := hW
              replace hW : True := trivial
              clear hW0
              have hsz := hgk.size
              have hB1 : HW ≤ wr.heap.size := by unfold Same at hHW; omega
              by_cases hltk : k < n
              · obtain ⟨ad, A', c', rfl, hcn, hadl, hrd⟩ := hneeds k hltk
                have hcn := (hgk.cell_far (ad.add k) (by rw [block_of_add]; exact hadl) (by simp)).trans hcn
                have hrd := hrd.keep (keep_of_grown hgk hbAW (by simp))
                have hx : wr.cell? ⟨gS, k, none⟩ = some (.int .u8 (st k)) := (hgk.cell_far _ (hstates.lt gS rfl).2 (by simp)).trans (by rw [hstates.cellAt k (by omega), fl_at _ hltk])
                have hst9 : wr.ownsRow B0 5 1 (.slice (some ⟨gS, 0, none⟩) n n) n (bytes (fl n st)) := by rw [fl_bytes]; exact hstates.kept hgk (.inr (by simp [Value.ownBlock]))
                have hready := ready_says (row xss k) (fl n st) (by have := hs k; omega) (fun j hj => by
                  rw [fl_len, List.getD_eq_getElem?_getD, List.getElem?_eq_getElem hj, Option.getD_some]
                  exact hwf k hltk _ (List.getElem_mem hj)) A' (some ⟨gS, 0, none⟩) bA wr.heap.size c' n wr hrd (by rw [fl_len]; exact owns_reads hst9)
                rw [fl_len] at hready
                have hlr := lack_ready hwf st hltk
                have hskl := hs k
                obtain ⟨ml, hml⟩ : ∃ ml, ml = (row xss k).length := ⟨_, rfl⟩
                rw [← hml] at hready hlr hcn hskl
                have hlen := those_len (isNow xss st) k
                have hstep := those_succ (isNow xss st) k
                have hints := those_ints (isNow xss st) k
                obtain ⟨zs, hzs⟩ : ∃ zs, zs = those (isNow xss st) k := ⟨_, rfl⟩
                rw [← hzs] at hlen hown hstep hints
                replace hzs : Same zs (those (isNow xss st) k) := hzs
                replace hml : Same ml _ := hml
                clear hrd hst9
                by_cases hz : st k = 0
                · by_cases hlk : lackOf xss st k = 0
                  · have hin : isNow xss st k = true := by simp [isNow, hz, hlk]
                    rw [if_pos hin] at hstep hints
                    replace hstep : Same (those (isNow xss st) (k + 1)) (zs ++ [(k : Int)]) := hstep
                    replace hints : Same (ints (those (isNow xss st) (k + 1))) (ints zs ++ [.int .i64 (k : Int)]) := hints
                    have hready := tells_true hready (hlr.2 hlk)
                    rw [hz] at hx
                    clear hz hlk hlr hin
                    go_wp2_with (first
                      | (go_at_call 36; refine hready.mono ?_; rintro e w9 ⟨rfl, q9, rfl⟩; have hown9 : (wr.drewN q9).ownsRow HW 3 1 _ _ _ := hown)
                      | (at_builtin; refine wpList_append_any _ rfl (.tmp 80) (.tmp 82) 23 rfl HW 3 i3 _ 1 8 under23 hi3 hz3 hs3 hb3 rfl (by decide) _ _ _ rfl (hown9.alloc _) _ 1 1 _ [.int .i64 k] rfl (lit_reads' _ _ _ _ (by rfl)) (by simp [Value.oneCell']) (by unfold maxLen; omega) (by omega) (by simp; omega) ?_; intro v9 w9 hv9 hg9 hb9))
                    go_roundw
                    case rel =>
                      unfold Same at hstep hints hHW
                      refine ⟨k + 1, by omega, by go_num, ((hgk.trans (drewN_grown wr _)).andThen (World.grownBy_alloc _ _ none) (by simp)).andThen hg9 (fun j hj => .inl (by rw [← hHW]; exact (hown.lt j hj).1)), ?_⟩
                      rw [hints, hstep, List.length_append]
                      exact hv9
                    case measure => simp [intOf]; omega
                  · have hin : isNow xss st k = false := by simp [isNow, hz, hlk]
                    rw [if_neg (by rw [hin]; decide)] at hstep hints
                    replace hstep : Same (those (isNow xss st) (k + 1)) zs := hstep
                    have hready := tells_false hready (fun h => hlk (hlr.1 h))
                    rw [hz] at hx
                    clear hz hlk hlr hin hints
                    go_wp2_with (go_at_call 36; refine hready.mono ?_; rintro e w9 ⟨rfl, q9, rfl⟩)
                    go_roundw
                    case rel =>
                      unfold Same at hstep
                      refine ⟨k + 1, by omega, by go_num, hgk.trans (drewN_grown wr _), ?_⟩
                      rw [hstep]
                      exact hown
                    case measure => simp [intOf]; omega
                · have hpf : (st k == 0) = false := by simpa using hz
                  have hin : isNow xss st k = false := by simp [isNow, hz]
                  rw [if_neg (by rw [hin]; decide)] at hstep hints
                  replace hstep : Same (those (isNow xss st) (k + 1)) zs := hstep
                  clear hz hlr hin hints hready
                  go_wp2
                  go_roundw
                  case rel =>
                    unfold Same at hstep
                    refine ⟨k + 1, by omega, by go_num, hgk, ?_⟩
                    rw [hstep]
                    exact hown
                  case measure => simp [intOf]; omega
              · obtain rfl : n = k := by omega
                obtain ⟨A1, c1, rfl, _⟩ := owns_slice hown
                clear hneeds hltk hs ha'
                have hown : wr.ownsRow HW 3 1 (.slice A1 (nowL xss n st).length c1) (nowL xss n st).length (ints (nowL xss n st)) := hown
                have hLn : (nowL xss n st).length ≤ n := those_len _ _
                obtain ⟨L, hL⟩ : ∃ L, L = (nowL xss n st).length := ⟨_, rfl⟩
                have hlen0 : (those (isNow xss st) n).length = L := hL.symm
                rw [hlen0]
                rw [← hL] at hown hLn
                replace hL : Same L _ := hL
                replace hlen0 : True := trivial
                have hgdw := hgd.other (Chg.of_grown hgk) (fun x e => by cases e)
                have hendw := hends.kept hgk (.inr (by simp [Value.ownBlock]))
                have hstw := hstates.kept hgk (.inr (by simp [Value.ownBlock]))
                have hgw2 := hgw.trans hgk
                have hgS2 := (hstates.lt gS rfl).2
                have hGb2 : ∀ x, G x → gS < x ∧ x < W.heap.size := hGb
                have hub : ∀ g, A1 = some ⟨g, 0, none⟩ → W.heap.size ≤ g ∧ g < wr.heap.size := fun g e => by
                  unfold Same at hHW
                  have := hown.lt g (by rw [e]; rfl)
                  omega
                clear hgd hends hstates hgw hgk hGb
                by_cases hz : 0 < L
                · have hLe : nowL xss n (S xss n (badf ys) r) ≠ [] := fun e => by unfold Same at hL hst; rw [hst, e] at hL; simp at hL; omega
                  replace hLe : Held _ := hLe
                  have hL0 : ¬ L = 0 := by omega
                  have hLb : ((L : Int) == 0) = false := by simpa using hL0
                  go_wp2
                  obtain ⟨W2, hW2⟩ : ∃ W2, W2 = wr := ⟨_, rfl⟩
                  go_loopw [14] (fun x wq => ∃ j, j ≤ L ∧ x = .int .i64 (j : Nat) ∧ Chg (fun x => x = gS) W2 wq ∧ wq.ownsRow B0 5 1 (.slice (some ⟨gS, 0, none⟩) n n) n (fl n fun k => .int .u8 (part xss n (badf ys) st j k))) (fun x _ => L - (intOf x).toNat)
                  case atStart => exact ⟨0, Nat.zero_le _, rfl, by rw [hW2]; exact Chg.refl _ _, by rw [part_zero]; exact hstw⟩
                  case round =>
                    obtain ⟨j, hj, rfl, hcj, hpj⟩ := hrel
                    rw [← hW2] at hgdw hendw hstw hgw2 hown hub hB1 hsz
                    replace hW2 : True := trivial
                    by_cases hltj : j < L
                    · obtain ⟨i, hi, hii, hin⟩ := now_at (xss := xss) (n := n) (st := st) (j := j) (by unfold Same at hL; omega)
                      have hnw := hcj.owns hown (fun g e e' => by
                        have := (hown.lt g e).1
                        unfold Same at hHW
                        omega)
                      have hrow : Reads wr wr.heap.size 1 A1 L (ints (nowL xss n st)) := by
                        obtain ⟨A9, c9, e, h⟩ := owns_slice hnw
                        cases e
                        exact h _ hnw
                      obtain ⟨ad, x, rfl, _, hx, hcx⟩ := hrow.at_ hltj
                      rw [hii] at hx
                      obtain rfl : Value.int .i64 (i : Int) = x := Option.some.inj hx
                      have hew := hcj.owns hendw (fun g e e' => by have e : some B0 = some g := e; cases e; omega)
                      have hce : wr.cell? ⟨B0, i, none⟩ = some (.int .u8 (how (badf ys) i)) := by rw [hew.cellAt i (by omega), fl_at _ hin]
                      have hcs : wr.cell? ⟨gS, i, none⟩ = some (.int .u8 (part xss n (badf ys) st j i)) := by rw [hpj.cellAt i (by omega), fl_at _ hin]
                      have hfs := hpj.frozenAt i
                      obtain ⟨hp2, hg2⟩ := set_row (j := i) (how (badf ys) i) hpj
                      rw [← part_succ st hi] at hp2
                      have hcj2 : Chg (fun x => x = gS) W2 _ := hcj.trans (Chg.of_grown hg2) (fun x e => .inl (by cases e; rfl))
                      have hcj3 : Chg (fun x => x = gS) W2 (wr.setCell ⟨gS, i, none⟩ (.int .u8 (how (badf ys) i))).drew := ⟨hcj2.os, hcj2.tape, hcj2.output, hcj2.size, hcj2.block⟩
                      have hp3 : (wr.setCell ⟨gS, i, none⟩ (.int .u8 (how (badf ys) i))).drew.ownsRow B0 5 1 (.slice (some ⟨gS, 0, none⟩) n n) n (fl n fun k => .int .u8 (part xss n (badf ys) st (j + 1) k)) := hp2
                      obtain ⟨hwv, hhw⟩ : ∃ hwv, hwv = how (badf ys) i := ⟨_, rfl⟩
                      rw [← hhw] at hce hcj2 hp2 hcj3 hp3
                      clear hx hii hrow hnw hew hpj hcj hg2 hhw hi hub
                      go_wp2
                      go_region
                      all_goals
                        go_wp2_with fail
                        go_roundw
                        case rel => exact ⟨j + 1, by omega, by go_num, hcj3, hp3⟩
                        case measure => simp [intOf]; omega
                    · obtain rfl : L = j := by omega
                      have hne : ∀ x, x = gS → G x → False := fun x e h => by have := (hGb2 x h).1; omega
                      have hgd3 := hgdw.other hcj (fun x e h => (hne x e h).elim)
                      have hend3 := hcj.owns hendw (fun g e e' => by have e : some B0 = some g := e; cases e; omega)
                      have hown3 := hcj.owns hown (fun g e e' => by
                        have := (hown.lt g e).1
                        unfold Same at hHW
                        omega)
                      have hgw3 := grow_chg hgw2 hcj (fun x e => by unfold Same at hB2; omega)
                      have hs3' := hgd3.s
                      have hsz3 := hcj.size
                      replace hGb2 : Held _ := hGb2
                      replace hsome : Held _ := hsome
                      clear hne hLb hL0 hub hj hltj
                      go_upto_region 27 with fail
                      generalize hQQ : Exit.inBlock 5 _ = QQ
                      go_wp2_with (at_builtin; go_loud (refine wpList_append_any _ rfl (.tmp 106) (.tmp 108) 22 rfl 0 23 i23 _ 1 24 under22 hi23 hz23 hs23 hb23 rfl (by decide) _ _ _ rfl (hs3'.alloc _) _ 1 1 _ [.slice A1 L c1] rfl (lit_reads _ _ _) (by simp [Value.oneCell']) (by unfold maxLen; omega) (by omega) (Nat.zero_le _) ?_); intro v1 w1 hv1 hg1 hb1; obtain ⟨A8, c8, rfl, hq8⟩ := owns_slice hv1; clear hq8)
                      rw [← hQQ]
                      clear hQQ
                      dsimp (config := { zetaDelta := true }) only [Exit.inBlock, Exit.then]
                      go_roundw
                      case rel =>
                        unfold Same at hL hst hHW hB2
                        unfold Held at hLe
                        have hownR : wr.ownsRow 0 3 1 (.slice A1 L c1) (nowL xss n (S xss n (badf ys) r)).length (ints (nowL xss n (S xss n (badf ys) r))) := by
                          rw [← hst, ← hL]; exact hown3.mono (Nat.zero_le _)
                        obtain ⟨hgd4, hch4⟩ := hgd3.push (u := .slice A1 L c1) hownR (fun g e h => by have := (hown3.lt g e).1; have := hGb2 g h; omega) hv1 hg1 hb1
                        have hsz4 := hch4.size
                        have hpa : part xss n (badf ys) st L = S xss n (badf ys) (r + 1) := by rw [hL, part_all, hst]; rfl
                        rw [hpa] at hpj
                        refine ⟨r + 1, _, _, rfl, ⟨grow_chg hgw3 hch4 (fun x e => by have := (hGb2 x e).1; omega), hch4.owns hend3 (fun g e h => by have e : some B0 = some g := e; cases e; have := (hGb2 _ h).1; omega), hch4.owns hpj (fun g e h => by have e : some gS = some g := e; cases e; have := (hGb2 _ h).1; omega), ⟨_, _, hgd4.tight, fun x hx => ?_⟩, fun r' h => ?_, ?_⟩⟩
                        · refine ⟨?_, hx.2⟩
                          rcases hx.1 with h | h | h
                          · exact (hGb2 x h).1
                          · have := (hown3.lt x h).1; omega
                          · omega
                        · rcases Nat.lt_or_ge r' r with h' | h'
                          · exact hsome r' h'
                          · obtain rfl : r' = r := by omega
                            exact hLe
                        · rw [hst] at hle
                          exact Nat.lt_of_le_of_lt hle (dones_nxt _ hLe)
                      case measure =>
                        have hrlt : r < n := by
                          unfold Same at hst
                          unfold Held at hLe
                          rw [hst] at hle
                          have h1 := dones_nxt (bad := badf ys) _ hLe
                          have h2 := dones_le (n := n) (nxt xss n (badf ys) (S xss n (badf ys) r))
                          omega
                        exact (show n - (r + 1) < n - r by omega)
                · obtain rfl : L = 0 := by omega
                  have hLe : nowL xss n (S xss n (badf ys) r) = [] := by
                    unfold Same at hL hst
                    rw [← hst]
                    exact List.length_eq_zero_iff.1 hL.symm
                  have hstp : Stops xss n (badf ys) r := ⟨hLe, hsome⟩
                  replace hstp : Held _ := hstp
                  obtain ⟨W2, hW2⟩ : ∃ W2, W2 = wr := ⟨_, rfl⟩
                  obtain ⟨H2, hH2⟩ : ∃ H2, H2 = wr.heap.size := ⟨_, rfl⟩
                  replace hH2 : Same H2 wr.heap.size := hH2
                  clear hLe hsome hz hown
                  go_wp2
                  go_loopw [15, 16] (fun u x wq => ∃ k, k ≤ n ∧ x = .int .i64 (k : Nat) ∧ W2.grownBy wq none ∧ wq.ownsRow H2 3 1 u (those (fun k => st k == 0) k).length (ints (those (fun k => st k == 0) k))) (fun _ x _ => n - (intOf x).toNat)
                  case atStart => exact ⟨0, Nat.zero_le _, rfl, by rw [hW2]; exact World.grownBy.refl _ _, World.ownsRow_nil _ _ _ _⟩
                  case round =>
                    obtain ⟨k, hk, rfl, hgk, hown⟩ := hrel
                    rw [← hW2] at hgdw hendw hstw hgw2 hsz hub hH2
                    replace hW2 : True := trivial
                    have hsz2 := hgk.size
                    have hB1 : H2 ≤ wr.heap.size := by unfold Same at hH2; omega
                    by_cases hltk : k < n
                    · have hx : wr.cell? ⟨gS, k, none⟩ = some (.int .u8 (st k)) := (hgk.cell_far _ (hstw.lt gS rfl).2 (by simp)).trans (by rw [hstw.cellAt k (by omega), fl_at _ hltk])
                      have hlen := those_len (fun k => st k == 0) k
                      have hstep := those_succ (fun k => st k == 0) k
                      have hints := those_ints (fun k => st k == 0) k
                      obtain ⟨zs, hzs⟩ : ∃ zs, zs = those (fun k => st k == 0) k := ⟨_, rfl⟩
                      rw [← hzs] at hlen hown hstep hints
                      replace hzs : Same zs (those (fun k => st k == 0) k) := hzs
                      by_cases hpk : st k = 0
                      · rw [if_pos (by simpa using hpk)] at hstep hints
                        replace hstep : Same (those (fun k => st k == 0) (k + 1)) (zs ++ [(k : Int)]) := hstep
                        replace hints : Same (ints (those (fun k => st k == 0) (k + 1))) (ints zs ++ [.int .i64 (k : Int)]) := hints
                        rw [hpk] at hx
                        clear hpk
                        go_wp2_with (at_builtin; refine wpList_append_any _ rfl (.tmp 121) (.tmp 123) 23 rfl H2 3 i3 _ 1 8 under23 hi3 hz3 hs3 hb3 rfl (by decide) _ _ _ rfl (hown.alloc _) _ 1 1 _ [.int .i64 k] rfl (lit_reads _ _ _) (by simp [Value.oneCell']) (by unfold maxLen; omega) (by omega) (by simp; omega) ?_; intro v9 w9 hv9 hg9 hb9)
                        go_roundw
                        case rel =>
                          unfold Same at hstep hints hH2
                          refine ⟨k + 1, by omega, by go_num, (hgk.andThen (World.grownBy_alloc wr _ none) (by simp)).andThen hg9 (fun j hj => .inl (by rw [← hH2]; exact (hown.lt j hj).1)), ?_⟩
                          rw [hints, hstep, List.length_append]
                          exact hv9
                        case measure => simp [intOf]; omega
                      · have hpf : (st k == 0) = false := by simpa using hpk
                        rw [if_neg (by simpa using hpk)] at hstep hints
                        replace hstep : Same (those (fun k => st k == 0) (k + 1)) zs := hstep
                        clear hpk hints
                        go_wp2
                        go_roundw
                        case rel =>
                          unfold Same at hstep
                          refine ⟨k + 1, by omega, by go_num, hgk, ?_⟩
                          rw [hstep]
                          exact hown
                        case measure => simp [intOf]; omega
                    · obtain rfl : n = k := by omega
                      go_wp2
                      go_ret3
                      unfold Same at hst hn hB0 hH2
                      subst hn hst
                      refine ⟨hgw2.trans hgk, fun _ _ => ⟨r, G, _, vf, _, rfl, hstp, hgdw.other (Chg.of_grown hgk) (fun x e => by cases e), fun g h => by have := (hGb2 g h).1; omega, hown.mono (Nat.zero_le _), fun g e => ?_⟩, fun h => absurd ⟨hP, hBad⟩ h⟩
                      have h1 := (hown.lt g e).1
                      exact ⟨fun h => by have := hGb2 g h; omega, by omega⟩
end Go.Proofs.Ytoilhpmimcbniaa

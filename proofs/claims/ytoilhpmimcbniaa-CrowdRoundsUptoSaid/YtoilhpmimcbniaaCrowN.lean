/- The law CrowdRounds. -/
import Derived.Test.YtoilhpmimcbniaaCrowM
import Derived.BigQuiet
namespace Go.Proofs.Ytoilhpmimcbniaa
open Go.RowKit

theorem row_fl {r j : Nat} (R : Nat → List Int) (hj : j < r) : row (fl r R) j = R j := by unfold row; exact fl_getD _ _ hj

theorem Grid.ll {w : World} {G : Nat → Prop} {v : Value} {r : Nat} {R : Nat → List Int} {vf : Nat → Value} (h : Grid w G v r R vf) : ∃ A c, v = .slice A r c ∧ LL w w.heap.size A (fl r R) := by
  obtain ⟨A, c, rfl, hrd⟩ := owns_slice h.s
  refine ⟨A, c, rfl, fun hn => ?_⟩
  rw [fl_len] at hn
  obtain ⟨ad, rfl, hb, hc⟩ := (hrd _ h.s).2 hn
  refine ⟨ad, rfl, hb, fun j hj => ?_⟩
  rw [fl_len] at hj
  rw [row_fl _ hj]
  have hrow := h.rows j hj
  obtain ⟨A', c', e, h2⟩ := owns_slice hrow
  exact ⟨A', c', (hc j _ (fl_at _ hj)).trans (by rw [e]), h2 _ hrow⟩

theorem short_fl {r n : Nat} {R : Nat → List Int} (hr : r ≤ 1048576) (hR : ∀ j, (R j).length ≤ n) (hn : n ≤ 1048576) : Short (fl r R) := by
  refine ⟨by rw [fl_len]; omega, fun j => ?_⟩
  by_cases hj : j < r
  · rw [row_fl _ hj]; have := hR j; omega
  · unfold row
    rw [List.getD_eq_getElem?_getD, List.getElem?_eq_none (by rw [fl_len]; omega)]
    simp

theorem lq {f : FuncId} {args : Array Value} {w' : World} {q : Nat} (h : Calls Try.prog f args (w'.drewN q) fun e w9 => e = .returned (.bool true) ∧ ∃ m, w9 = (w'.drewN q).drewN m) : Calls Try.prog f args (w'.drewN q) fun e w9 => e = .returned (.bool true) ∧ ∃ m, w9 = w'.drewN m :=
  h.mono fun _ _ ⟨he, m, hm⟩ => ⟨he, q + m, by rw [hm, World.drewN_drewN]⟩

theorem stops_le {xss : List (List Int)} {n : Nat} {bad : Nat → Bool} {R : Nat} (h : Stops xss n bad R) : R ≤ n := by
  have key : ∀ r, r ≤ R → r ≤ dones n (S xss n bad r) := by
    intro r
    induction r with
    | zero => intro _; exact Nat.zero_le _
    | succ r ih => intro hr; exact Nat.lt_of_le_of_lt (ih (by omega)) (dones_nxt _ (h.2 r (by omega)))
  exact Nat.le_trans (key R (Nat.le_refl _)) (dones_le _)

/-- The rows from i on. -/
theorem ll_from {w : World} {A : Option Addr} {c r i : Nat} {Rf : Nat → List Int} {vf : Nat → Value} (hi : i ≤ r) (hs : w.ownsRow 0 23 1 (.slice A r c) r (fl r vf)) (hrows : ∀ j, i ≤ j → j < r → w.ownsRow 0 3 1 (vf j) (Rf j).length (ints (Rf j))) {ad : Addr} (hA : A = some ad) :
    LL w w.heap.size (some (ad.add i)) (fl (r - i) fun j => Rf (i + j)) := fun hn => by
  rw [fl_len] at hn
  obtain ⟨A9, c9, e9, hrd⟩ := owns_slice hs
  obtain ⟨rfl, rfl⟩ : A = A9 ∧ c = c9 := by cases e9; exact ⟨rfl, rfl⟩
  obtain ⟨ad2, e, hb, hc⟩ := (hrd _ hs).2 (by omega)
  obtain rfl : ad = ad2 := by rw [hA] at e; cases e; rfl
  refine ⟨_, rfl, by rw [block_of_add]; exact hb, fun j hj => ?_⟩
  rw [fl_len] at hj
  rw [row_fl _ hj, add_of_add]
  have hrow := hrows (i + j) (by omega) (by omega)
  obtain ⟨A', c', e', h2⟩ := owns_slice hrow
  exact ⟨A', c', (hc (i + j) _ (fl_at _ (by omega))).trans (by rw [e']), h2 _ hrow⟩

/-- What both Rounds hand back: one number of rows, one list of rows, one rest, one code. -/
theorem out_eq (xss : List (List Int)) (ys : List Int) (hl : xss.length ≤ 1048576) : ∃ (r : Nat) (Rf : Nat → List Int) (ll : List Int) (code : Int), r ≤ 1048576 ∧ (∀ j, (Rf j).length ≤ 1048576) ∧ ll.length ≤ 1048576 ∧
    ∀ B0 e w', Outcome B0 xss ys e w' → ∃ G v vf v2, e = .returned (.tuple #[v, v2, .int .i64 code]) ∧ Grid w' G v r Rf vf ∧ (∀ g, G g → B0 ≤ g) ∧ w'.ownsRow 0 3 1 v2 ll.length (ints ll) ∧ (∀ g, v2.ownBlock = some g → ¬ G g ∧ B0 ≤ g) := by
  by_cases hf : MayP xss ∧ BadP xss.length ys
  · by_cases hR : ∃ R, Stops xss xss.length (badf ys) R
    · obtain ⟨R, hR⟩ := hR
      refine ⟨R, (fun j => nowL xss xss.length (S xss xss.length (badf ys) j)), (those (fun k => S xss xss.length (badf ys) R k == 0) xss.length), 0, ?_, ?_, ?_, fun B0 e w' h => ?_⟩
      · have := stops_le hR; omega
      · intro j; exact Nat.le_trans (those_len _ _) hl
      · exact Nat.le_trans (those_len _ _) hl
      · obtain ⟨R', G, v, vf, v2, e1, h1, h2, h3, h4, h5⟩ := h.1 hf.1 hf.2
        obtain rfl := stops_eq h1 hR
        exact ⟨G, v, vf, v2, e1, h2, h3, h4, h5⟩
    · refine ⟨0, fun _ => [], [], 0, by omega, fun _ => by simp, by simp, fun B0 e w' h => ?_⟩
      obtain ⟨R', G, v, vf, v2, e1, h1, _⟩ := h.1 hf.1 hf.2
      exact absurd ⟨R', h1⟩ hR
  · refine ⟨0, fun _ => [], [], 1, by omega, fun _ => by simp, by simp, fun B0 e w' h => ?_⟩
    exact ⟨fun _ => False, _, fun _ => undef, _, h.2 hf, Grid.nil _ _ _ _, fun _ h => h.elim, World.ownsRow_nil _ _ _ _, fun g e => (by cases e)⟩

set_option maxRecDepth 20000 in
set_option maxHeartbeats 1000000 in
theorem law_true (xss : List (List Int)) (hl : xss.length ≤ 1048576) (hs : ∀ j, (row xss j).length ≤ 1048576) (hab : ∀ k u, (abv xss k u).length ≤ 1048576) (ys : List Int) (hy : ys.length ≤ 1048576)
    (A D : Option Addr) (bA bD c d : Nat) (w : World) (hB : bA ≤ w.heap.size) (hB' : bD ≤ w.heap.size) (ha : LL w bA A xss) (hd : Reads w bD 1 D ys.length (ints ys)) :
    Calls Try.prog 3 #[.slice A xss.length c, .slice D ys.length d] w fun e w' => e = .returned (.bool true) ∧ w.grownBy w' none := by
  obtain ⟨i3, hi3, hz3, hs3, hb3⟩ := info3
  have hlent := lent_lays xss hl hs A bA c w hB ha
  have href := fun w' (h1 : bA ≤ w'.heap.size) (h2 : bD ≤ w'.heap.size) (h3 : LL w' bA A xss) (h4 : Reads w' bD 1 D ys.length (ints ys)) => RefRounds_does xss hl hs ys hy A D bA bD c d w' h1 h2 h3 h4
  have hrou := fun w' (A D : Option Addr) (bA bD c d : Nat) (h1 : bA ≤ w'.heap.size) (h2 : bD ≤ w'.heap.size) (h3 : LL w' bA A xss) (h4 : Reads w' bD 1 D ys.length (ints ys)) => Rounds_does xss hl hs hab ys hy A D bA bD c d w' h1 h2 h3 h4
  obtain ⟨r, Rf, ll, code, hr, hRf, hll, hout⟩ := out_eq xss ys hl
  have hkept := kept_same xss ⟨by omega, fun j => by have := hs j; omega⟩ (by omega) (fun j => by have := hs j; omega)
  have hnum := numbers_same ys (by omega)
  obtain ⟨n, hn⟩ : ∃ n, n = xss.length := ⟨_, rfl⟩
  obtain ⟨m, hm⟩ : ∃ m, m = ys.length := ⟨_, rfl⟩
  rw [← hn] at hl hlent href hrou hkept ⊢
  rw [← hm] at hd hy href hrou hnum ⊢
  replace hkept : Held _ := hkept
  replace hnum : Held _ := hnum
  replace hout : Held _ := hout
  replace hn : Same n xss.length := hn
  replace hm : Same m ys.length := hm
  go_enter Try.func3, Try.ntmps3
  go_upto_region 2 with (go_at_call 10; refine hlent.mono ?_; rintro e w1 ⟨hg1, gx, cx, rfl, hcx, hgx, hxl⟩)
  have hd1 := hd.keep (keep_of_grown hg1 hB' (by simp))
  have hsz1 := hg1.size
  have hl0 := World.ownsRow_lit (base := w1.heap.size) (size := 1) (e := 3) w1 #[] 0 (Nat.le_refl _) (by decide) rfl
  have hx0 : Reads (w1.alloc (.cells #[] 3)) bD 1 D m (ints ys) := hd1.keep (keep_of_grown (World.grownBy_alloc w1 _ none) (by omega) (by simp))
  go_upto_region 3 with (first
    | (at_builtin; refine wpList_append_any _ rfl (.tmp 23) (.tmp 24) 23 rfl w1.heap.size 3 i3 _ 1 8 under23 hi3 hz3 hs3 hb3 rfl (by decide) _ 0 [] rfl hl0 D m d bD (ints ys) rfl hx0 (ints_one _) (by unfold maxLen; omega) (by omega) (by simp) ?_; intro v1 w2 hv1 hg2 hb1)
    | (at_builtin; refine wpList_append_any _ rfl (.tmp 25) (.tmp 26) 23 rfl w1.heap.size 3 i3 _ 1 8 under23 hi3 hz3 hs3 hb3 rfl (by decide) _ _ _ rfl (hv1.alloc _) _ 1 1 _ [.int .i64 987] rfl (lit_reads _ _ _) (by simp [Value.oneCell']) (by unfold maxLen; omega) (by omega) (by have := hg2.size; simp at this ⊢; omega) ?_; intro v2 w3 hv2 hg3 hb2; rw [Nat.zero_add, List.nil_append] at hv2; obtain ⟨gy, cy, rfl, hgyb, hgyl, hgyc, hgym⟩ := owns_form hv2 (Nat.succ_pos _); have hmc : m ≤ cy := Nat.le_of_succ_le hgyc; have hall := grown3 hg2 hb1 hg3))
  have hgw3 := hg1.trans hall
  have hxl3 : LentAt w3 w1.heap.size ⟨gx, 0, none⟩ xss := hxl.keep (keep_of_grown hall (Nat.le_refl _) (by simp))
  have hya : Reads w3 w3.heap.size 1 (some ⟨gy, 0, none⟩) (m + 1) (ints ys ++ [.int .i64 987]) := owns_reads hv2
  have hyr : ∀ w' : World, w3.grownBy w' none → Reads w' w3.heap.size 1 (some ⟨gy, 0, none⟩) m (ints ys) ∧ w'.cell? ⟨gy, m, none⟩ = some (.int .i64 987) := fun w' h => by
    have hk := keep_of_grown h (Nat.le_refl _) (by simp)
    have hlen : (ints ys).length = m := by unfold Same at hm; rw [hm]; simp [ints]
    have hc := (hv2.kept h (.inr (by simp [Value.ownBlock]))).cells rfl
    refine ⟨⟨by omega, fun _ => ⟨_, rfl, hgyl, fun j u hu => hc j u ?_⟩⟩, ?_⟩
    · rw [List.getElem?_append_left (by have := (List.getElem?_eq_some_iff.1 hu).1; exact this)]; exact hu
    · have := hc m (.int .i64 987) (by rw [List.getElem?_append_right (by omega), hlen]; simp)
      rwa [show (⟨gy, 0, none⟩ : Addr).add m = ⟨gy, m, none⟩ by unfold Addr.add; split <;> simp_all] at this
  have hr3 := href w3 (by have := hgw3.size; omega) (by have := hgw3.size; omega) (ha.keep (keep_of_grown hgw3 hB (by simp))) (hd.keep (keep_of_grown hgw3 hB' (by simp)))
  clear hlent href hd1 hl0 hx0 hv1 hg2 hb1 hg3 hb2
  replace hrou : Held _ := hrou
  replace hyr : Held _ := hyr
  go_upto_region 4 with (go_at_call 11; refine hr3.mono ?_; rintro e w4 ⟨hg4, ho4⟩; obtain ⟨Gw, vw, vfw, v2w, rfl, hgdw, hGw, hlw, hblw⟩ := hout _ _ _ ho4)
  clear hr3
  have hsz4 := hg4.size
  have hr4 := hrou w4 (some ⟨gx, 0, none⟩) (some ⟨gy, 0, none⟩) w1.heap.size w3.heap.size cx cy (by have := hall.size; omega) hsz4 (hxl3.ll.keep (keep_of_grown hg4 (by have := hall.size; omega) (by simp))) (hyr w4 hg4).1
  go_upto_region 5 with (go_at_call 12; refine hr4.mono ?_; rintro e w5 ⟨hg5, ho5⟩; obtain ⟨Ga, va, vfa, v2a, rfl, hgda, hGa, hla, hbla⟩ := hout _ _ _ ho5)
  clear hr4
  have hg35 := hg4.trans hg5
  have hr5 := hrou w5 (some ⟨gx, 0, none⟩) (some ⟨gy, 0, none⟩) w1.heap.size w3.heap.size cx cy (by have := hall.size; have := hg35.size; omega) hg35.size (hxl3.ll.keep (keep_of_grown hg35 (by have := hall.size; omega) (by simp))) (hyr w5 hg35).1
  go_upto_region 6 with (go_at_call 12; refine hr5.mono ?_; rintro e w6 ⟨hg6, ho6⟩; obtain ⟨Gc, vc, vfc, v2c, rfl, hgdc, hGc, hlc, hblc⟩ := hout _ _ _ ho6)
  clear hr5
  have hg56 := hg5.trans hg6
  have hg36 := hg35.trans hg6
  have hgww := hgdw.other (Chg.of_grown hg56) (fun x e => by cases e)
  have hgaa := hgda.other (Chg.of_grown hg6) (fun x e => by cases e)
  have hlw6 := hlw.kept hg56 (by cases v2w.ownBlock <;> simp)
  have hla6 := hla.kept hg6 (by cases v2a.ownBlock <;> simp)
  have hgw6 := hgw3.trans hg36
  obtain ⟨hy6, hym6⟩ := hyr w6 hg36
  have hx6 : LentAt w6 w1.heap.size ⟨gx, 0, none⟩ xss := hxl3.keep (keep_of_grown hg36 (by have := hall.size; omega) (by simp))
  have ha6 := ha.keep (keep_of_grown hgw6 hB (by simp))
  have hd6 := hd.keep (keep_of_grown hgw6 hB' (by simp))
  have hsh : Short (fl r Rf) := short_fl hr hRf (Nat.le_refl _)
  obtain ⟨Aw, cw, rfl, hLw⟩ := hgww.ll
  obtain ⟨Aa, ca, rfl, hLa⟩ := hgaa.ll
  obtain ⟨Ac, cc, rfl, hLc⟩ := hgdc.ll
  obtain ⟨Bw, ew, rfl, hNw⟩ := owns_slice hlw6
  obtain ⟨Ba, ea, rfl, hNa⟩ := owns_slice hla6
  obtain ⟨Bc, ec, rfl, hNc⟩ := owns_slice hlc
  have hNwr := hNw
  have hNar := hNa
  replace hNwr : Held _ := hNwr
  replace hNar : Held _ := hNar
  have hNw := hNw _ hlw6
  have hNa := hNa _ hla6
  have hNcr := hNc
  replace hNcr : Held _ := hNcr
  have hNc := hNc _ hlc
  have hrl : (fl r Rf).length = r := fl_len _ _
  have cAW : ∀ q, Calls Try.prog 13 #[.slice Aa r ca, .slice Aw r cw] (w6.drewN q) fun e w9 => e = .returned (.bool true) ∧ ∃ m, w9 = w6.drewN m := fun q => by
    have := lists_same (fl r Rf) hsh Aa Aw w6.heap.size w6.heap.size ca cw (w6.drewN q) hLa hLw
    rw [hrl] at this
    exact lq this
  have cCW : ∀ q, Calls Try.prog 13 #[.slice Ac r cc, .slice Aw r cw] (w6.drewN q) fun e w9 => e = .returned (.bool true) ∧ ∃ m, w9 = w6.drewN m := fun q => by
    have := lists_same (fl r Rf) hsh Ac Aw w6.heap.size w6.heap.size cc cw (w6.drewN q) hLc hLw
    rw [hrl] at this
    exact lq this
  have cBL : ∀ q, Calls Try.prog 14 #[.slice Ba ll.length ea, .slice Bw ll.length ew] (w6.drewN q) fun e w9 => e = .returned (.bool true) ∧ ∃ m, w9 = w6.drewN m := fun q =>
    lq (numbers_same ll (by omega) Ba Bw w6.heap.size w6.heap.size ea ew (w6.drewN q) hNa hNw)
  have cDL : ∀ q, Calls Try.prog 14 #[.slice Bc ll.length ec, .slice Bw ll.length ew] (w6.drewN q) fun e w9 => e = .returned (.bool true) ∧ ∃ m, w9 = w6.drewN m := fun q =>
    lq (numbers_same ll (by omega) Bc Bw w6.heap.size w6.heap.size ec ew (w6.drewN q) hNc hNw)
  have cY : ∀ q, Calls Try.prog 14 #[.slice (some ⟨gy, 0, none⟩) m cy, .slice D m d] (w6.drewN q) fun e w9 => e = .returned (.bool true) ∧ ∃ m, w9 = w6.drewN m := fun q =>
    lq (hnum (some ⟨gy, 0, none⟩) D w3.heap.size bD cy d (w6.drewN q) hy6 hd6)
  have cK : ∀ q, Calls Try.prog 15 #[.slice (some ⟨gx, 0, none⟩) n cx, .slice A n c] (w6.drewN q) fun e w9 => e = .returned (.bool true) ∧ ∃ m, w9 = w6.drewN m := fun q =>
    lq (hkept ⟨gx, 0, none⟩ A bA w1.heap.size cx c hcx (w6.drewN q) (hx6.keep fun _ _ => rfl) ha6)
  obtain ⟨N, hN⟩ : ∃ N, N = ll.length := ⟨_, rfl⟩
  rw [← hN] at cBL cDL ⊢
  replace hN : Same N ll.length := hN
  clear hrou hkept hnum hout hyr hxl3 hya hv2
  clear hsh hrl
  have cAW0 : Calls Try.prog 13 #[.slice Aa r ca, .slice Aw r cw] w6 fun e w9 => e = .returned (.bool true) ∧ ∃ m, w9 = w6.drewN m := cAW 0
  replace hgww : Held _ := hgww
  replace hgaa : Held _ := hgaa
  replace hgdc : Held _ := hgdc
  go_upto_region 8 with (first
    | (go_at_call_of 13 Aa; refine cAW0.mono ?_; rintro e w7 ⟨rfl, q1, rfl⟩)
    | (go_at_call_of 13 Ac; refine (cCW _).mono ?_; rintro e w7 ⟨rfl, q2, rfl⟩)
    | (go_at_call_of 14 Ba; refine (cBL _).mono ?_; rintro e w7 ⟨rfl, q3, rfl⟩)
    | (go_at_call_of 14 Bc; refine (cDL _).mono ?_; rintro e w7 ⟨rfl, q4, rfl⟩)
    | (go_at_call_of 14 D; refine (cY _).mono ?_; rintro e w7 ⟨rfl, q6, rfl⟩)
    | (go_at_call 15; refine (cK _).mono ?_; rintro e w7 ⟨rfl, q5, rfl⟩))
  have hsz5 := hg5.size
  have hsz6 := hg6.size
  clear cAW0 cAW cCW cBL cDL cY cK
  go_wp2
  go_loopw [16] (fun x wr => ∃ i, i ≤ r ∧ x = .int .i64 (i : Nat) ∧ Chg (fun x => ∃ j, j < i ∧ (vfa j).ownBlock = some x) w6 wr) (fun x _ => r - (intOf x).toNat)
  case atStart => exact ⟨0, Nat.zero_le _, rfl, ⟨rfl, rfl, rfl, Nat.le_refl _, fun _ _ _ => rfl⟩⟩
  case round =>
    obtain ⟨i, hi, rfl, hch⟩ := hrel
    have hgaa' : Grid w6 Ga (.slice Aa r ca) r Rf vfa := hgaa
    have hGav : ∀ j g, j < r → (vfa j).ownBlock = some g → w4.heap.size ≤ g ∧ g < w5.heap.size := fun j g hj e => ⟨hGa g (hgda.gr j g hj e).1, ((hgda.rows j hj).lt g e).2⟩
    by_cases hlt : i < r
    · have hrowi := hgaa'.rows i hlt
      obtain ⟨Az, cz, hvz, hzr⟩ := owns_slice hrowi
      have hLl := hRf i
      have hout0 := hch.owns hgaa'.s (fun g e ⟨j, hj, e'⟩ => (hgaa'.gr j g (by omega) e').2 e)
      have hzi := hch.owns hrowi (fun g e ⟨j, hj, e'⟩ => by have := hgaa'.apart i j g hlt (by omega) e e'; omega)
      obtain ⟨A9, c9, e9, hrd9⟩ := owns_slice hout0
      obtain ⟨rfl, rfl⟩ : Aa = A9 ∧ ca = c9 := by cases e9; exact ⟨rfl, rfl⟩
      obtain ⟨ad, x, rfl, _, hx, hcx⟩ := (hrd9 _ hout0).at_ hlt
      rw [fl_at _ hlt] at hx
      obtain rfl : vfa i = x := Option.some.inj hx
      rw [hvz] at hcx
      obtain ⟨L, hL⟩ : ∃ L, L = (Rf i).length := ⟨_, rfl⟩
      rw [← hL] at hcx hLl
      have hch1 : Chg (fun x => ∃ j, j < i + 1 ∧ (vfa j).ownBlock = some x) w6 wr := hch.mono fun x ⟨j, hj, e⟩ => ⟨j, by omega, e⟩
      have hrel0 : ∃ xs, wr.ownsRow 0 3 1 (vfa i) L xs := ⟨_, hL ▸ hzi⟩
      clear e9 hrd9 hx hzr hout0 hzi
      replace hgaa' : Held _ := hgaa'
      replace hGav : Held _ := hGav
      replace hvz : Held (vfa i = .slice Az L cz) := by rw [hvz, hL]; rfl
      replace hL : Same L _ := hL
      go_wp2
      go_loopw [18] (fun x wr => ∃ k, k ≤ L ∧ x = .int .i64 (k : Nat) ∧ Chg (fun x => ∃ j, j < i + 1 ∧ (vfa j).ownBlock = some x) w6 wr ∧ ∃ xs, wr.ownsRow 0 3 1 (vfa i) L xs) (fun x _ => L - (intOf x).toNat)
      case atStart => exact ⟨0, Nat.zero_le _, rfl, hch1, hrel0⟩
      case round =>
        obtain ⟨k, hk, rfl, hch2, xs, hxs⟩ := hrel
        by_cases hltk : k < L
        · obtain ⟨gz, cz2, hfz, _, _, _, _⟩ := owns_form hxs (by omega)
          have hvz' : vfa i = .slice Az L cz := hvz
          obtain ⟨rfl, rfl⟩ : Az = some ⟨gz, 0, none⟩ ∧ cz = cz2 := by rw [hvz'] at hfz; cases hfz; exact ⟨rfl, rfl⟩
          have hxs' : wr.ownsRow 0 3 1 (.slice (some ⟨gz, 0, none⟩) L cz) L xs := hvz' ▸ hxs
          obtain ⟨u0, hu0⟩ : ∃ u0, wr.cell? ⟨gz, k, none⟩ = some u0 := by
            rw [hxs'.cellAt k (by omega)]
            exact ⟨_, List.getElem?_eq_getElem (by have := hxs'.1; omega)⟩
          have hfr := hxs'.frozenAt k
          obtain ⟨hst, hgst⟩ := hxs'.stored k (.int .i64 (-1))
          have hob : (vfa i).ownBlock = some gz := by rw [hvz']; rfl
          have hch3 : Chg (fun x => ∃ j, j < i + 1 ∧ (vfa j).ownBlock = some x) w6 (wr.setCell ⟨gz, k, none⟩ (.int .i64 (-1))) := hch2.trans (Chg.of_grown hgst) (fun x e => .inl ⟨i, by omega, by rw [hob]; exact e⟩)
          rw [← hvz'] at hst
          clear hfz hvz' hxs hxs' hob hgst
          go_wp2
          go_roundw
          case rel => exact ⟨k + 1, by omega, by go_num, hch3, _, hst⟩
          case measure => simp [intOf]; omega
        · obtain rfl : L = k := by omega
          have hvz' : vfa i = .slice Az L cz := hvz
          go_wp2
          go_loopw [17, 19] (fun z x wr => ∃ t xs, t ≤ 20 ∧ x = .int .i64 (t : Nat) ∧ wr.ownsRow 0 3 1 z (L + t) xs ∧ (∀ g, z.ownBlock = some g → (vfa i).ownBlock = some g ∨ w6.heap.size ≤ g) ∧ Chg (fun x => ∃ j, j < i + 1 ∧ (vfa j).ownBlock = some x) w6 wr) (fun _ x _ => 20 - (intOf x).toNat)
          case atStart => exact ⟨0, xs, by omega, rfl, hvz' ▸ hxs, fun g e => .inl (by rw [hvz']; exact e), hch2⟩
          case round =>
            obtain ⟨t, zs, ht, rfl, hz, hzb, hch4⟩ := hrel
            clear hxs hch2
            by_cases hltt : t < 20
            · replace hzb : Held _ := hzb
              go_wp2_with (at_builtin; refine wpList_append_any _ rfl (.tmp 133) (.tmp 134) 23 rfl 0 3 i3 _ 1 8 under23 hi3 hz3 hs3 hb3 rfl (by decide) _ _ _ rfl (hz.alloc _) _ 1 1 _ [.int .i64 (-2)] rfl (lit_reads _ _ _) (by simp [Value.oneCell']) (by unfold maxLen; omega) (by omega) (Nat.zero_le _) ?_; intro v9 w9 hv9 hg9 hb9)
              go_roundw
              case rel =>
                have hsz9 := hch4.size
                refine ⟨t + 1, _, by omega, by go_num, hv9, fun g e => ?_, hch4.trans (((Chg.of_grown (World.grownBy_alloc _ _ none)).mono (fun x e => by cases e)).trans (Chg.of_grown hg9) (fun x e => .inl e) : Chg _ _ _) (fun x e => ?_)⟩
                · rcases hb9 with e' | e'
                  · exact hzb g (e' ▸ e)
                  · right; rw [e'] at e; cases e; simp; omega
                · rcases hzb x e with h | h
                  · exact .inl ⟨i, by omega, h⟩
                  · exact .inr h
              case measure => simp [intOf]; omega
            · obtain rfl : t = 20 := by omega
              have hH : ∀ x, (∃ j, j < i + 1 ∧ (vfa j).ownBlock = some x) → w4.heap.size ≤ x ∧ x < w5.heap.size ∧ Ga x := fun x ⟨j, hj, e⟩ => ⟨(hGav j x (by omega) e).1, (hGav j x (by omega) e).2, (hgda.gr j x (by omega) e).1⟩
              have hgwt : Grid wr (fun x => Gw x ∧ x < w4.heap.size) (.slice Aw r cw) r Rf vfw := (hgdw.tight.other (Chg.of_grown hg56) (fun x e => by cases e)).other hch4 (fun x h1 h2 => by have := hH x h1; have := h2.2; omega)
              have hga6 : Grid w6 Ga (.slice (some ad) r ca) r Rf vfa := hgaa'
              have houtr := hch4.owns hga6.s (fun g e ⟨j, hj, e'⟩ => (hga6.gr j g (by omega) e').2 e)
              have hrowr : ∀ j, i + 1 ≤ j → j < r → wr.ownsRow 0 3 1 (vfa j) (Rf j).length (ints (Rf j)) := fun j h1 h2 => hch4.owns (hga6.rows j h2) (fun g e ⟨j', hj', e'⟩ => by have := hga6.apart j j' g h2 (by omega) e e'; omega)
              have hLa9 := ll_from (i := i + 1) (by omega) houtr hrowr rfl
              obtain ⟨Aw', cw', ew', hrw'⟩ := owns_slice hgwt.s
              obtain ⟨rfl, rfl⟩ : Aw = Aw' ∧ cw = cw' := by cases ew'; exact ⟨rfl, rfl⟩
              obtain ⟨adw, _, rfl, _, _, _⟩ := (hrw' _ hgwt.s).at_ hlt
              have hLw9 := ll_from (i := i + 1) (by omega) hgwt.s (fun j _ h2 => hgwt.rows j h2) rfl
              have hb9 := hch4.owns hla6 (fun g e h => (hbla g e).1 (hH g h).2.2)
              have hl9 := hch4.owns hlw6 (fun g e h => by have := (hlw.lt g e).2; have := hH g h; omega)
              have hsh9 : Short (fl (r - (i + 1)) fun j => Rf (i + 1 + j)) := short_fl (by omega) (fun j => hRf _) (Nat.le_refl _)
              obtain ⟨Az9, cz9, rfl, _⟩ := owns_slice hz
              have hra : r ≤ ca := by obtain ⟨g, c9, e, _, _, h, _⟩ := owns_form houtr (by omega); cases e; exact h
              have hrw : r ≤ cw := by obtain ⟨g, c9, e, _, _, h, _⟩ := owns_form hgwt.s (by omega); cases e; exact h
              have cL := lists_same _ hsh9 (some (ad.add (i + 1))) (some (adw.add (i + 1))) wr.heap.size wr.heap.size (ca - (i + 1)) (cw - (i + 1))
              rw [fl_len] at cL
              have hir : i + 1 ≤ r := hlt
              have hdd : decide ((L : Int) + 20 < 20) = false := decide_eq_false (by omega)
              have hi1 : IntKind.i64.wrap ((i : Int) + 1) = (i : Int) + 1 := IntWalk.i64_in _ (by omega)
              have hi2 : 0 ≤ (i : Int) + 1 := by omega
              have hi3 : ((i : Int) + 1).toNat = i + 1 := by omega
              have cLL : ∀ (A1 A2 : Option Addr) c1 c2 w9, LL w9 wr.heap.size A1 (fl (r - (i + 1)) fun j => Rf (i + 1 + j)) → LL w9 wr.heap.size A2 (fl (r - (i + 1)) fun j => Rf (i + 1 + j)) → Calls Try.prog 13 #[.slice A1 (r - (i + 1)) c1, .slice A2 (r - (i + 1)) c2] w9 fun e w' => e = .returned (.bool true) ∧ ∃ n, w' = w9.drewN n := fun A1 A2 c1 c2 w9 h1 h2 => by
                have := lists_same _ hsh9 A1 A2 wr.heap.size wr.heap.size c1 c2 w9 h1 h2
                rw [fl_len] at this
                exact this
              have hvac : r = i + 1 → ∀ (A1 : Option Addr) w9, LL w9 wr.heap.size A1 (fl (r - (i + 1)) fun j => Rf (i + 1 + j)) := fun e A1 w9 h => by rw [fl_len] at h; omega
              clear hH hga6 houtr hrowr hrw' hz hzb hgwt hsh9 cL
              replace hvac : Held _ := hvac
              replace cLL : Held _ := cLL
              rw [show ad.add (i + 1) = ⟨ad.block, ad.off + (i + 1), none⟩ by simp [Addr.add]] at hLa9
              rw [show adw.add (i + 1) = ⟨adw.block, adw.off + (i + 1), none⟩ by simp [Addr.add]] at hLw9
              have cBB := fun w9 (h1 : Reads w9 wr.heap.size 1 Ba ll.length (ints ll)) (h2 : Reads w9 wr.heap.size 1 Bw ll.length (ints ll)) => numbers_same ll (by omega) Ba Bw wr.heap.size wr.heap.size ea ew w9 h1 h2
              have hb9 := (hNar _ hb9)
              have hl9 := (hNwr _ hl9)
              unfold Same at hN
              rw [← hN] at cBB hb9 hl9
              replace hN : Same N ll.length := hN
              replace cBB : Held _ := cBB
              replace hLa9 : Held _ := hLa9
              replace hLw9 : Held _ := hLw9
              replace hb9 : Held _ := hb9
              replace hl9 : Held _ := hl9
              go_wp2
              by_cases hk1 : ca = i + 1 <;> by_cases hk2 : cw = i + 1
              all_goals
                go_quiet ((first
                  | (go_at_call 13; exact Calls.quiet_of (cLL _ _ _ _ _ (by first | exact hLa9 | exact hvac (by omega) _ _) (by first | exact hLw9 | exact hvac (by omega) _ _)))
                  | (go_at_call 14; exact Calls.quiet_of (cBB _ hb9 hl9))))
              all_goals
                go_wp2
                go_roundw
                case rel => exact ⟨i + 1, by omega, by go_num, ⟨hch4.os, hch4.tape, hch4.output, hch4.size, hch4.block⟩⟩
                case measure => simp [intOf]; omega
    · obtain rfl : i = r := by omega
      have hF1 : ∀ x, (∃ j, j < i ∧ (vfa j).ownBlock = some x) → w4.heap.size ≤ x ∧ x < w5.heap.size ∧ Ga x := fun x ⟨j, hj, e⟩ => ⟨(hGav j x hj e).1, (hGav j x hj e).2, (hgda.gr j x hj e).1⟩
      have hF2 : ∀ x, (Value.slice Ba ll.length ea).ownBlock = some x → w4.heap.size ≤ x ∧ x < w5.heap.size ∧ ¬ Ga x := fun x e => ⟨(hbla x e).2, (hla.lt x e).2, (hbla x e).1⟩
      have hown0 : ∃ xs, wr.ownsRow 0 3 1 (.slice Ba N ea) N xs := by
        unfold Same at hN
        rw [hN]
        exact ⟨_, hch.owns hla6 (fun g e h => (hF2 g e).2.2 (hF1 g h).2.2)⟩
      have hch0 : Chg (fun x => (∃ j, j < i ∧ (vfa j).ownBlock = some x) ∨ (Value.slice Ba ll.length ea).ownBlock = some x) w6 wr := hch.mono fun x h => .inl h
      have hNl : N ≤ 1048576 := by unfold Same at hN; omega
      replace hF1 : Held _ := hF1
      replace hF2 : Held _ := hF2
      go_wp2
      go_loopw [20] (fun x wr => ∃ k, k ≤ N ∧ x = .int .i64 (k : Nat) ∧ Chg (fun x => (∃ j, j < i ∧ (vfa j).ownBlock = some x) ∨ (Value.slice Ba ll.length ea).ownBlock = some x) w6 wr ∧ ∃ xs, wr.ownsRow 0 3 1 (.slice Ba N ea) N xs) (fun x _ => N - (intOf x).toNat)
      case atStart => exact ⟨0, Nat.zero_le _, rfl, hch0, hown0⟩
      case round =>
        obtain ⟨k, hk, rfl, hch2, xs, hxs⟩ := hrel
        clear hch0 hown0 hch
        by_cases hltk : k < N
        · obtain ⟨gz, cz2, hfz, _, _, _, _⟩ := owns_form hxs (by omega)
          obtain ⟨rfl, rfl⟩ : Ba = some ⟨gz, 0, none⟩ ∧ ea = cz2 := by cases hfz; exact ⟨rfl, rfl⟩
          obtain ⟨u0, hu0⟩ : ∃ u0, wr.cell? ⟨gz, k, none⟩ = some u0 := by
            rw [hxs.cellAt k (by omega)]
            exact ⟨_, List.getElem?_eq_getElem (by have := hxs.1; omega)⟩
          have hfr := hxs.frozenAt k
          obtain ⟨hst, hgst⟩ := hxs.stored k (.int .i64 (-3))
          have hch3 : Chg (fun x => (∃ j, j < i ∧ (vfa j).ownBlock = some x) ∨ (Value.slice (some ⟨gz, 0, none⟩) ll.length ea).ownBlock = some x) w6 (wr.setCell ⟨gz, k, none⟩ (.int .i64 (-3))) := hch2.trans (Chg.of_grown hgst) (fun x e => .inl (.inr e))
          clear hfz hxs hgst hch2
          go_wp2
          go_roundw
          case rel => exact ⟨k + 1, by omega, by go_num, hch3, _, hst⟩
          case measure => simp [intOf]; omega
        · obtain rfl : k = N := by omega
          have hH : ∀ x, ((∃ j, j < i ∧ (vfa j).ownBlock = some x) ∨ (Value.slice Ba ll.length ea).ownBlock = some x) → w4.heap.size ≤ x ∧ x < w5.heap.size := fun x h => h.elim (fun h => ⟨(hF1 x h).1, (hF1 x h).2.1⟩) fun h => ⟨(hF2 x h).1, (hF2 x h).2.1⟩
          have hgwt : Grid wr (fun x => Gw x ∧ x < w4.heap.size) (.slice Aw i cw) i Rf vfw := (hgdw.tight.other (Chg.of_grown hg56) (fun x e => by cases e)).other hch2 (fun x h1 h2 => by have := hH x h1; have := h2.2; omega)
          have hgdc' : Grid w6 Gc (.slice Ac i cc) i Rf vfc := hgdc
          have hgct : Grid wr Gc (.slice Ac i cc) i Rf vfc := hgdc'.other hch2 (fun x h1 h2 => by have := hH x h1; have := hGc x h2; omega)
          obtain ⟨Aw', cw', ew', hLw9⟩ := hgwt.ll
          obtain ⟨rfl, rfl⟩ : Aw = Aw' ∧ cw = cw' := by cases ew'; exact ⟨rfl, rfl⟩
          obtain ⟨Ac', cc', ec', hLc9⟩ := hgct.ll
          obtain ⟨rfl, rfl⟩ : Ac = Ac' ∧ cc = cc' := by cases ec'; exact ⟨rfl, rfl⟩
          have hlc9 := hch2.owns hlc (fun g e h => by have := (hblc g e).2; have := hH g h; omega)
          have hlw9 := hch2.owns hlw6 (fun g e h => by have := (hlw.lt g e).2; have := hH g h; omega)
          have hsh : Short (fl i Rf) := short_fl hr hRf (Nat.le_refl _)
          have cLL := lists_same _ hsh Ac Aw wr.heap.size wr.heap.size cc cw wr hLc9 hLw9
          rw [fl_len] at cLL
          have cBB := fun q => numbers_same ll (by omega) Bc Bw wr.heap.size wr.heap.size ec ew (wr.drewN q) (hNcr _ hlc9) (hNwr _ hlw9)
          have hfin := grow_chg hgw6 hch2 (fun x h => by have := hH x h; have := hgw3.size; omega)
          unfold Same at hN
          rw [← hN] at cBB
          clear hF1 hF2 hH hgwt hgdc' hgct ew' ec' hlc9 hlw9 hsh hLw9 hLc9 hch2 hN
          replace hfin : Held _ := hfin
          go_wp2_with (first
            | (go_at_call 13; refine cLL.mono ?_; rintro e w7 ⟨rfl, q7, rfl⟩)
            | (go_at_call 14; refine (cBB _).mono ?_; rintro e w7 ⟨rfl, q8, rfl⟩))
          go_ret
          unfold Held at hfin
          exact ⟨rfl, ⟨hfin.os, hfin.tape, hfin.output, hfin.size, hfin.block⟩⟩
end Go.Proofs.Ytoilhpmimcbniaa

/- The board's ended. -/
import Derived.Test.YtoilhpmimcbniaaCrowH
namespace Go.Proofs.Ytoilhpmimcbniaa
open Go.RowKit

/-- What is lacking when the first j of ks are bound. -/
def low (lk : Nat → Int) (ks : List Int) (j : Nat) : Nat → Int := fun k => lk k - ((ks.take j).count (k : Int) : Nat)
/-- Those of the first j of ks that came to nothing lacking. -/
def hits (lk : Nat → Int) (ks : List Int) : Nat → List Int
  | 0 => []
  | j + 1 => if low lk ks (j + 1) (ks.getD j 0).toNat = 0 then hits lk ks j ++ [ks.getD j 0] else hits lk ks j

theorem hits_len (lk : Nat → Int) (ks : List Int) (j : Nat) : (hits lk ks j).length ≤ j := by
  induction j with
  | zero => exact Nat.le_refl _
  | succ j ih => unfold hits; split
                 · rw [List.length_append]; simp; omega
                 · omega

theorem low_succ (lk : Nat → Int) (ks : List Int) (j u : Nat) (hj : j < ks.length) (hu : ks.getD j 0 = (u : Int)) : low lk ks (j + 1) = upd1 (low lk ks j) u (low lk ks j u - 1) := by
  have ht : ks.take (j + 1) = ks.take j ++ [(u : Int)] := by
    rw [List.take_succ_eq_append_getElem hj, ← hu, List.getD_eq_getElem?_getD, List.getElem?_eq_getElem hj, Option.getD_some]
  funext k
  unfold low upd1
  rw [ht, List.count_append]
  by_cases h : k = u
  · subst h; rw [if_pos rfl, List.count_singleton_self]; omega
  · have : ((u : Int) == (k : Int)) = false := by simp; omega
    rw [if_neg h, List.count_singleton, this]; simp

set_option maxHeartbeats 1000000 in
theorem ended_failed {w : World} {F : Nat → Prop} {b g1 g2 g3 n : Nat} {st lk : Nat → Int} {ab : Nat → List Int} {vf : Nat → Value} {i : Nat} (hi : i < n) (hn : n ≤ 1048576) (hbd : Board w F b g1 g2 g3 n st lk ab vf) (s : Int) (hs : s ≠ 1) :
    Calls Try.prog 40 #[.pointer (some ⟨b, 0, none⟩), .int .i64 i, .int .u8 s] w fun e w' => Chg F w w' ∧ e = .returned (.slice none 0 0) ∧ Board w' F b g1 g2 g3 n (upd1 st i s) lk ab vf := by
  obtain ⟨hc0, hc1, hc2⟩ := hbd.cells
  have hx := hbd.at1 hi
  have hf := hbd.s1.frozenAt i
  have hsb : (s != 1) = true := by simpa using hs
  obtain ⟨h1, h2⟩ := hbd.set1 i s
  go_enter Try.func40, Try.ntmps40
  go_wp2
  go_ret
  exact ⟨h2.mono fun x e => e ▸ hbd.own.2.1, rfl, h1⟩

set_option maxHeartbeats 1000000 in
theorem ended_bound {w : World} {F : Nat → Prop} {b g1 g2 g3 n : Nat} {st lk : Nat → Int} {ab : Nat → List Int} {vf : Nat → Value} {i : Nat} (hi : i < n) (hn : n ≤ 1048576) (hF : ∀ x, F x → x < w.heap.size) (hbd : Board w F b g1 g2 g3 n st lk ab vf)
    (hin : ∀ j, j < (ab i).length → 0 ≤ (ab i).getD j 0 ∧ (ab i).getD j 0 < n) (hcnt : ∀ k, k < n → (((ab i).count (k : Int) : Nat) : Int) ≤ lk k ∧ lk k ≤ 1048576) (hm : (ab i).length ≤ 1048576) :
    Calls Try.prog 40 #[.pointer (some ⟨b, 0, none⟩), .int .i64 i, .int .u8 1] w fun e w' => Chg F w w' ∧ ∃ v, e = .returned v ∧ Board w' F b g1 g2 g3 n (upd1 st i 1) (low lk (ab i) (ab i).length) ab vf ∧
      w'.ownsRow w.heap.size 3 1 v (hits lk (ab i) (ab i).length).length (ints (hits lk (ab i) (ab i).length)) := by
  obtain ⟨i3, hi3, hz3, hs3, hb3⟩ := info3
  obtain ⟨B0, hB0⟩ : ∃ B0, B0 = w.heap.size := ⟨_, rfl⟩
  rw [← hB0] at hF ⊢
  replace hB0 : Same B0 w.heap.size := hB0
  obtain ⟨hc0, hc1, hc2⟩ := hbd.cells
  have hx := hbd.at1 hi
  have hf := hbd.s1.frozenAt i
  obtain ⟨hbd1, hch1⟩ := hbd.set1 i 1
  have hch1 : Chg F w _ := hch1.mono fun x e => e ▸ hbd.own.2.1
  obtain ⟨hd0, hd1, hd2⟩ := hbd1.cells
  have hd3 := hbd1.at3 hi
  have hrow := hbd1.rows i hi
  obtain ⟨ks, hks⟩ : ∃ ks, ks = ab i := ⟨_, rfl⟩
  rw [← hks] at hin hcnt hm hrow ⊢
  obtain ⟨m, hmm⟩ : ∃ m, m = ks.length := ⟨_, rfl⟩
  rw [← hmm] at hin hm hrow ⊢
  replace hks : Same ks (ab i) := hks
  replace hmm : Same m ks.length := hmm
  have hvf : ∃ A c, vf i = .slice A m c ∧ ∀ w', w'.ownsRow 0 3 1 (vf i) m (ints ks) → Reads w' w'.heap.size 1 A m (ints ks) := by
    rcases Nat.eq_zero_or_pos m with h0 | hp
    · rcases hrow.2 with ⟨e, _⟩ | ⟨g, cap, cur, e, _⟩
      · exact ⟨none, 0, by rw [e, h0], fun w' h => ⟨h.1, fun h => by omega⟩⟩
      · exact ⟨_, cap, e, fun w' h => owns_reads (e ▸ h)⟩
    · obtain ⟨g, cap, e, _⟩ := owns_form hrow hp
      exact ⟨_, cap, e, fun w' h => owns_reads (e ▸ h)⟩
  obtain ⟨A, c, hvi, hrd⟩ := hvf
  rw [hvi] at hd3
  replace hvi : Same (vf i) (.slice A m c) := hvi
  go_enter Try.func40, Try.ntmps40
  go_wp2
  go_loopw [7, 27] (fun v x wr => ∃ j, j ≤ m ∧ x = .int .i64 (j : Nat) ∧ Chg F w wr ∧ Board wr F b g1 g2 g3 n (upd1 st i 1) (low lk ks j) ab vf ∧ wr.ownsRow B0 3 1 v (hits lk ks j).length (ints (hits lk ks j))) (fun _ x _ => m - (intOf x).toNat)
  case atStart =>
    refine ⟨0, Nat.zero_le _, rfl, hch1, ?_, World.ownsRow_nil _ _ _ _⟩
    have e : low lk ks 0 = lk := by funext k; simp [low]
    rw [e]
    exact hbd1
  case round =>
    obtain ⟨j, hj, rfl, hcw, hbq, hown⟩ := hrel
    obtain ⟨hq0, hq1, hq2⟩ := hbq.cells
    by_cases hlt : j < m
    · obtain ⟨ad, x, rfl, _, hy, hcx⟩ := (hrd wr (by unfold Same at hks; unfold Same at hmm; rw [hmm, hks]; exact hks ▸ hbq.rows i hi)).at_ hlt
      obtain rfl := ints_at hy
      obtain ⟨hu0, hu1⟩ := hin j hlt
      have hkd : ks.getD j 0 = (((ks.getD j 0).toNat : Nat) : Int) := (Int.toNat_of_nonneg hu0).symm
      have hlow := low_succ lk ks j (ks.getD j 0).toNat (by unfold Same at hmm; omega) hkd
      have hhit : hits lk ks (j + 1) = if low lk ks (j + 1) (ks.getD j 0).toNat = 0 then hits lk ks j ++ [ks.getD j 0] else hits lk ks j := rfl
      have hlen := hits_len lk ks j
      have hcn := hcnt (ks.getD j 0).toNat (by omega)
      have htk : (ks.take (j + 1)).count (((ks.getD j 0).toNat : Nat) : Int) ≤ ks.count (((ks.getD j 0).toNat : Nat) : Int) := (List.take_sublist (j + 1) ks).count_le _
      obtain ⟨u, hu⟩ : ∃ u, u = (ks.getD j 0).toNat := ⟨_, rfl⟩
      rw [← hu] at hkd hlow hhit hcn htk
      have hun : u < n := by omega
      have hl2 := hbq.at2 hun
      have hf2 := hbq.s2.frozenAt u
      have hlu : low lk ks (j + 1) u = low lk ks j u - 1 := by rw [hlow]; simp [upd1]
      have hge : 0 ≤ low lk ks (j + 1) u := by unfold low; omega
      have hle : low lk ks (j + 1) u ≤ 1048576 := by unfold low; omega
      rw [hkd] at hcx hhit
      obtain ⟨hb2, hch2⟩ := hbq.set2 u (low lk ks (j + 1) u)
      have hbn : Board (wr.setCell ⟨g2, u, none⟩ (.int .i64 (low lk ks (j + 1) u))) F b g1 g2 g3 n (upd1 st i 1) (low lk ks (j + 1)) ab vf := by
        have e : low lk ks (j + 1) = upd1 (low lk ks j) u (low lk ks (j + 1) u) := by rw [hlu]; exact hlow
        rw [← e] at hb2; exact hb2
      have hcn2 : Chg F w (wr.setCell ⟨g2, u, none⟩ (.int .i64 (low lk ks (j + 1) u))) := hcw.trans hch2 (fun x e => .inl (e ▸ hbq.own.2.2.1))
      have hown2 := hch2.owns hown (fun g e e' => by have := hown.lt g e; have := hF g2 hbq.own.2.2.1; omega)
      clear hb2 hch2 hcw hown hy hu hin hcnt hkd hu0 hu1 hbd hbd1 hch1 hrow hrd hbq hlow hcn htk
      obtain ⟨L, hL⟩ : ∃ L, L = low lk ks (j + 1) u := ⟨_, rfl⟩
      rw [← hL] at hlu hge hle hhit hbn hcn2 hown2
      obtain ⟨L0, hL0⟩ : ∃ L0, L0 = low lk ks j u := ⟨_, rfl⟩
      rw [← hL0] at hl2 hlu
      obtain rfl : L0 = L + 1 := by omega
      replace hlu : True := trivial
      replace hL : Same L (low lk ks (j + 1) u) := hL
      replace hL0 : True := trivial
      have hne2 : ¬ b = g2 := hbn.ne.2.1
      obtain ⟨ys, hys⟩ : ∃ ys, ys = hits lk ks j := ⟨_, rfl⟩
      rw [← hys] at hlen hown2 hhit
      replace hys : Same ys (hits lk ks j) := hys
      by_cases hz : L = 0
      · rw [if_pos hz] at hhit
        replace hhit : Same (hits lk ks (j + 1)) (ys ++ [(u : Int)]) := hhit
        subst hz
        have hBw : B0 ≤ (wr.setCell ⟨g2, u, none⟩ (.int .i64 0)).heap.size := by have := hcn2.size; unfold Same at hB0; omega
        go_wp2_with (at_builtin; refine wpList_append_any _ rfl (.tmp 48) (.tmp 50) 23 rfl B0 3 i3 _ 1 8 under23 hi3 hz3 hs3 hb3 rfl (by decide) _ _ _ rfl (hown2.alloc _) _ 1 1 _ [.int .i64 u] rfl (lit_reads' _ _ _ _ (by simp)) (by simp [Value.oneCell']) (by unfold maxLen; omega) (by omega) (by simp at hBw ⊢; omega) ?_; intro v1 w1 hv1 hg1 hb1)
        go_roundw
        case rel =>
          unfold Same at hhit hL hys hB0
          have hfr : ∀ x, B0 ≤ x → F x → False := fun x h1 h2 => by have := hF x h2; omega
          have hall : Chg (fun x => B0 ≤ x) (wr.setCell ⟨g2, u, none⟩ (.int .i64 0)) w1 := ((Chg.of_grown (World.grownBy_alloc _ _ none)).mono (fun x e => by cases e)).trans (Chg.of_grown hg1) (fun x e => .inl (hown2.lt x e).1)
          refine ⟨j + 1, by omega, by go_num, hcn2.trans hall (fun x e => .inr (hB0 ▸ e)), hbn.other hall (fun x h1 h2 => (hfr x h1 h2).elim), ?_⟩
          rw [hhit]
          have : ints (ys ++ [(u : Int)]) = ints ys ++ [.int .i64 (u : Int)] := by simp [ints]
          rw [this, List.length_append]
          exact hv1
        case measure => simp [intOf]; omega
      · rw [if_neg hz] at hhit
        replace hhit : Same (hits lk ks (j + 1)) ys := hhit
        have hzb : (L == 0) = false := by simpa using hz
        go_wp2
        go_roundw
        case rel =>
          unfold Same at hhit hL hys
          refine ⟨j + 1, by omega, by go_num, hcn2, hbn, ?_⟩
          rw [hhit]
          exact hown2
        case measure => simp [intOf]; omega
    · obtain rfl : j = m := by omega
      go_wp2
      go_ret
      exact ⟨hcw, _, rfl, hbq, hown⟩
end Go.Proofs.Ytoilhpmimcbniaa

/- The law SensorParts, walked. -/
import Derived.Test.YtgllkknleombjaaDoorPartB
import Derived.Deep.DeepCutAuto
namespace Go.Proofs.YtgllkknleombjaaDoor
open Go.RowKit Go.Sort

/-- The medians' part, behind region 13: one lemma for both ways that lead to it. -/
structure Tail (l : List Int) (D : Option Addr) (B : Nat) (w : World) : Prop where
  tab : Tab w
  h8 : Holds8 w B D l
  hB : B ≤ w.heap.size
  pos : 0 < B

set_option maxRecDepth 20000 in
set_option maxHeartbeats 4000000 in
theorem parts_true (marks l : List Int) (d : Int) (hsb : Small l) (hna : marks.length ≤ 140737488351232) (hnb : l.length ≤ 140737488351232) (A D : Option Addr) (c c' : Nat) (hcap : marks.length ≤ c) (w : World) (ht : Tab w) (ha : Holds8 w w.heap.size A marks) (hd : Holds8 w w.heap.size D l) (h0w : 0 < w.heap.size) :
    Calls Tryd.prog 3 #[.slice A marks.length c, .int .i8 d, .slice D l.length c'] w fun e w' => e = .returned (.bool true) ∧ Below w.heap.size w w' := by
  obtain ⟨i23, hi, hz0, hz1, hz2⟩ := info_parts info23
  obtain ⟨n, hn⟩ : ∃ n, n = marks.length := ⟨_, rfl⟩
  obtain ⟨m, hm⟩ : ∃ m, m = l.length := ⟨_, rfl⟩
  obtain ⟨B0, hB0⟩ : ∃ B0, B0 = w.heap.size := ⟨_, rfl⟩
  have hzone := fun q => zone_does marks d A B0 c (by omega) (w.drewN q) (show Holds8 (w.drewN q) B0 A marks from hB0 ▸ ha)
  have hmed := fun q => median_does l D c' (by omega) (w.drewN q) (show Holds8 (w.drewN q) (w.drewN q).heap.size D l from hd)
  have hul := med_unique (xs := l) (ys := l.reverse)
  rw [← hn] at hna hcap hzone ⊢
  rw [← hm] at hnb hmed ⊢
  replace hB0 : Same B0 w.heap.size := hB0
  replace hn : Same n marks.length := hn
  replace hm : Same m l.length := hm
  have Ha := Lib.hid ha
  have Hd := Lib.hid hd
  have Ht := Lib.hid ht
  have Hmed := Lib.hid hmed
  have Hzone := Lib.hid hzone
  clear ha hd ht hmed hzone hul
  go_enter Tryd.func3, Tryd.ntmps3
  obtain ⟨zv, hzv⟩ : ∃ zv, zv = zoneV marks d := ⟨_, rfl⟩
  obtain ⟨ze, hze⟩ : ∃ ze, ze = zoneE marks := ⟨_, rfl⟩
  have Hzv := Lib.hid hzv
  have Hze := Lib.hid hze
  clear hzv hze
  go_upto_if 29 with (first
    | (go_at_call 5; refine (awake_true w Ht.out).mono ?_; rintro e w1 ⟨rfl, q1, rfl⟩)
    | (go_at_call 6; refine (Hzone.out _).mono ?_; rintro e w2 ⟨he, q2, rfl⟩; unfold Zoned at he; rw [← Hzv.out, ← Hze.out] at he; subst he))
  go_cut [6] (fun s6 wx => s6 = .bool false ∧ ∃ q, wx = w.drewN q)
  case first =>
    by_cases hz : marks.length ≤ 64 ∧ climbs marks marks.length
    · have hz' := zone_yes d hz.1 hz.2
      obtain ⟨t, ht1, ht2, ht3⟩ := zone_front d hz.2 marks.length (Nat.le_refl _)
      have hct := ht3 marks.length (Nat.le_refl _)
      obtain rfl : zv = (t : Int) := by rw [Hzv.out, hz'.1, hct]; congr 1; omega
      obtain rfl : ze = 0 := by rw [Hze.out, hz'.2]
      have htn : t ≤ n := by unfold Same at hn; omega
      have hlo : 0 < t → marks.getD (t - 1) 0 ≤ d := fun h => (ht2 (t - 1) (by omega)).2 (by omega)
      have hhi : t < n → d < marks.getD t 0 := fun h => by
        have h2 : t < marks.length := by unfold Same at hn; omega
        have := ht2 t h2
        omega
      have htake : ∀ k, k ≤ n → zoneV (marks.take k) d = ((min t k : Nat) : Int) ∧ zoneE (marks.take k) = 0 := fun k hk => by
        have h2 : k ≤ marks.length := by unfold Same at hn; omega
        have := zone_take (d := d) hz.1 hz.2 h2
        rw [this.1, this.2, ht3 k h2]
        exact ⟨rfl, rfl⟩
      have Hlo := Lib.hid hlo
      have Hhi := Lib.hid hhi
      have Htake := Lib.hid htake
      clear hlo hhi htake hz' ht2 ht3 hct hz ht1 Hzv Hze
      have hzk := fun k q ad (h : A = some ad) (hk : k ≤ n) => (by
        have hl : (marks.take k).length = k := by rw [List.length_take]; unfold Same at hn; omega
        have h8 : Holds8 (w.drewN q) B0 (some ad) (marks.take k) := fun h0 => by
          obtain ⟨ad', e, hb, hc⟩ := Ha.out (by unfold Same at hn; omega)
          rw [e] at h
          cases h
          exact ⟨_, rfl, by unfold Same at hB0; omega, fun j hj => by rw [take_getD _ (by omega)]; exact hc j (by unfold Same at hn; omega)⟩
        have := zone_does (marks.take k) d (some ad) B0 c (by omega) (w.drewN q) h8
        unfold Zoned at this
        rw [hl, (Htake.out k hk).1, (Htake.out k hk).2] at this
        exact this : Calls Tryd.prog 6 #[.slice (some ad) k c, .int .i8 d] (w.drewN q) fun e w' => e = .returned (.tuple #[.int .i64 ((min t k : Nat) : Int), .int .i64 0]) ∧ ∃ q', w' = (w.drewN q).drewN q')
      have hcellA : 0 < n → ∃ ad, A = some ad ∧ ∀ j, j < n → ∀ q, (w.drewN q).cell? (ad.add j) = some (.int .i8 (marks.getD j 0)) := fun h => by
        obtain ⟨ad, e, _, hc⟩ := Ha.out (by unfold Same at hn; omega)
        exact ⟨ad, e, fun j hj q => hc j (by unfold Same at hn; omega)⟩
      have Hzk := Lib.hid hzk
      have HcellA := Lib.hid hcellA
      clear hzk hcellA Htake
      have h1 : decide ((n : Int) < (t : Int)) = false := decide_eq_false (by omega)
      have h2 : decide ((t : Int) < 0) = false := decide_eq_false (by omega)
      have h3 : decide (n < t) = false := decide_eq_false (by omega)
      -- the tests on the marks at the front's end
      have hA1 : ∃ b1 : Bool, b1 = decide (0 < t) := ⟨_, rfl⟩
      by_cases ht0 : 0 < t
      · obtain ⟨ad, rfl, hca⟩ := HcellA.out (by omega)
        have hx1 := hca (t - 1) (by omega)
        have hx1d := Hlo.out ht0
        obtain ⟨x, hx⟩ : ∃ x, x = marks.getD (t - 1) 0 := ⟨_, rfl⟩
        rw [← hx] at hx1 hx1d
        have hx2 : decide (d < x) = false := decide_eq_false (by omega)
        have hk1 : ((t : Int) - 1).toNat = t - 1 := by omega
        have h5 : decide (0 < (t : Int)) = true := decide_eq_true (by omega)
        clear hx
        by_cases htn2 : t < n
        · have hy1 := hca t htn2
          have hy1d := Hhi.out htn2
          obtain ⟨y, hy⟩ : ∃ y, y = marks.getD t 0 := ⟨_, rfl⟩
          rw [← hy] at hy1 hy1d
          have hy2 : decide (y ≤ d) = false := decide_eq_false (by omega)
          clear hy hca
          go_wp2
          go_loopw [6, 9] (fun s x wr => ∃ k q : Nat, s = .bool false ∧ k ≤ n ∧ x = .int .i64 k ∧ wr = w.drewN q) (fun _ x _ => n - (intOf x).toNat)
          case atStart => exact ⟨0, _, rfl, Nat.zero_le _, rfl, rfl⟩
          case round =>
            obtain ⟨k, q, rfl, hk, rfl, rfl⟩ := hrel
            by_cases hlt : k < n
            · have cz := Hzk.out k q ad rfl hk
              have hc0 : ¬ c = 0 := by omega
              by_cases htk : t ≤ k
              · rw [Nat.min_eq_left htk] at cz
                go_wp2_with (go_at_call 6; refine cz.mono ?_; rintro e w9 ⟨rfl, q9, rfl⟩)
                go_roundw
                case rel => first | exact ⟨k + 1, _, rfl, by omega, by go_num, rfl⟩ | ((repeat apply Exists.intro); exact ⟨⟨k + 1, _, rfl, by omega, by go_num, rfl⟩, rfl⟩)
                case measure => simp [intOf]; omega
              · rw [Nat.min_eq_right (by omega)] at cz
                go_wp2_with (go_at_call 6; refine cz.mono ?_; rintro e w9 ⟨rfl, q9, rfl⟩)
                go_roundw
                case rel => first | exact ⟨k + 1, _, rfl, by omega, by go_num, rfl⟩ | ((repeat apply Exists.intro); exact ⟨⟨k + 1, _, rfl, by omega, by go_num, rfl⟩, rfl⟩)
                case measure => simp [intOf]; omega
            · obtain rfl : k = n := by omega
              go_wp2
              go_meet
              exact ⟨rfl, _, rfl⟩
        · clear hca
          go_wp2
          go_loopw [6, 9] (fun s x wr => ∃ k q : Nat, s = .bool false ∧ k ≤ n ∧ x = .int .i64 k ∧ wr = w.drewN q) (fun _ x _ => n - (intOf x).toNat)
          case atStart => exact ⟨0, _, rfl, Nat.zero_le _, rfl, rfl⟩
          case round =>
            obtain ⟨k, q, rfl, hk, rfl, rfl⟩ := hrel
            by_cases hlt : k < n
            · have cz := Hzk.out k q ad rfl hk
              have hc0 : ¬ c = 0 := by omega
              by_cases htk : t ≤ k
              · omega
              · rw [Nat.min_eq_right (by omega)] at cz
                go_wp2_with (go_at_call 6; refine cz.mono ?_; rintro e w9 ⟨rfl, q9, rfl⟩)
                go_roundw
                case rel => first | exact ⟨k + 1, _, rfl, by omega, by go_num, rfl⟩ | ((repeat apply Exists.intro); exact ⟨⟨k + 1, _, rfl, by omega, by go_num, rfl⟩, rfl⟩)
                case measure => simp [intOf]; omega
            · obtain rfl : k = n := by omega
              go_wp2
              go_meet
              exact ⟨rfl, _, rfl⟩
      · obtain rfl : t = 0 := by omega
        by_cases htn2 : 0 < n
        · obtain ⟨ad, rfl, hca⟩ := HcellA.out (by omega)
          have hy1 := hca 0 htn2
          have hy1d := Hhi.out htn2
          obtain ⟨y, hy⟩ : ∃ y, y = marks.getD 0 0 := ⟨_, rfl⟩
          rw [← hy] at hy1 hy1d
          rw [show ad.add 0 = ad by simp [Addr.add]] at hy1
          have hy2 : decide (y ≤ d) = false := decide_eq_false (by omega)
          clear hy hca
          go_wp2
          go_loopw [6, 9] (fun s x wr => ∃ k q : Nat, s = .bool false ∧ k ≤ n ∧ x = .int .i64 k ∧ wr = w.drewN q) (fun _ x _ => n - (intOf x).toNat)
          case atStart => exact ⟨0, _, rfl, Nat.zero_le _, rfl, rfl⟩
          case round =>
            obtain ⟨k, q, rfl, hk, rfl, rfl⟩ := hrel
            by_cases hlt : k < n
            · have cz := Hzk.out k q ad rfl hk
              have hc0 : ¬ c = 0 := by omega
              by_cases htk : 0 ≤ k
              · rw [Nat.min_eq_left htk] at cz
                go_wp2_with (go_at_call 6; refine cz.mono ?_; rintro e w9 ⟨rfl, q9, rfl⟩)
                go_roundw
                case rel => first | exact ⟨k + 1, _, rfl, by omega, by go_num, rfl⟩ | ((repeat apply Exists.intro); exact ⟨⟨k + 1, _, rfl, by omega, by go_num, rfl⟩, rfl⟩)
                case measure => simp [intOf]; omega
              · omega
            · obtain rfl : k = n := by omega
              go_wp2
              go_meet
              exact ⟨rfl, _, rfl⟩
        · go_wp2
          go_loopw [6, 9] (fun s x wr => ∃ k q : Nat, s = .bool false ∧ k ≤ n ∧ x = .int .i64 k ∧ wr = w.drewN q) (fun _ x _ => n - (intOf x).toNat)
          case atStart => exact ⟨0, _, rfl, Nat.zero_le _, rfl, rfl⟩
          case round =>
            obtain ⟨k, q, rfl, hk, rfl, rfl⟩ := hrel
            by_cases hlt : k < n
            · omega
            · obtain rfl : k = n := by omega
              go_wp2
              go_meet
              exact ⟨rfl, _, rfl⟩
    · have hz' := zone_no d hz
      obtain rfl : zv = 0 := by rw [Hzv.out, hz'.1]
      obtain rfl : ze = 1 := by rw [Hze.out, hz'.2]
      clear hz hz' Hzv Hze
      go_wp2
      go_meet
      exact ⟨rfl, _, rfl⟩
  case rest =>
    obtain ⟨rfl, q, rfl⟩ := hcut
    clear Hzv Hze Hzone Ha
    by_cases hmk : 0 < l.length ∧ l.length ≤ 4096
    · obtain ⟨h0, h1⟩ := hmk
      obtain ⟨mv, hmv⟩ : ∃ mv, mv = (up l).getD ((l.length - 1) / 2) 0 := ⟨_, rfl⟩
      obtain ⟨hh1, _⟩ := med_half l h0 hmv
      have hh2 := med_high l h0 hmv
      have hms := med_small' hsb h0
      rw [← hmv] at hms
      have hmy := med_yes h0 h1
      rw [← hmv] at hmy
      have hrl : l.reverse.length = l.length := List.length_reverse
      have hry := med_yes (zs := l.reverse) (by omega) (by omega)
      rw [med_unique h0 hrl (List.reverse_perm l), ← hmv] at hry
      have hcs := fun k (hk : k < l.length) => cnt_succ l mv hk
      have hgs := fun k (hk : k < l.length) => cntG_succ l mv hk
      have hrt := fun k (hk : k < l.length) => rev_take l hk
      have hm' : l.length = m := hm.symm
      rw [hm'] at h0 h1 hh1 hh2 hcs hgs hrt hrl
      have Hmy := Lib.hid hmy
      have Hry := Lib.hid hry
      have Hh1 := Lib.hid hh1
      have Hh2 := Lib.hid hh2
      have Hcs := Lib.hid hcs
      have Hgs := Lib.hid hgs
      have Hrt := Lib.hid hrt
      have Hrl := Lib.hid hrl
      obtain ⟨hms1, hms2⟩ := hms
      clear hmy hry hh1 hh2 hcs hgs hrt hrl hmv hm'
      go_upto_region 16 with (go_at_call 7; refine (Hmed.out q).mono ?_; rintro e w1 ⟨he, hb1⟩; unfold Medians at he; rw [Hmy.out.1, Hmy.out.2] at he; subst he)
      have hbw1 : Below B0 w w1 := by
        unfold Same at hB0
        rw [hB0]
        exact ⟨hb1.os, hb1.tape, hb1.output, hb1.size, hb1.block⟩
      clear hb1
      go_wp2
      go_loopw [14, 15, 16, 17] (fun a b v x wr => ∃ k : Nat, k ≤ m ∧ x = .int .i64 k ∧ a = .int .i64 (cnt l mv k : Nat) ∧ b = .int .i64 (cntG l mv k : Nat) ∧ wr.ownsRow B0 23 1 v k (b8 (l.reverse.take k)) ∧ Below B0 w wr) (fun _ _ _ x _ => m - (intOf x).toNat)
      case atStart => exact ⟨0, Nat.zero_le _, rfl, rfl, rfl, World.ownsRow_nil _ _ _ _, hbw1⟩
      case round =>
        obtain ⟨k, hk, rfl, rfl, rfl, hrow, hbw⟩ := hrel
        have hcn := cnt_le l mv k
        have hgn := cntG_le l mv k
        have hBw : B0 ≤ wr.heap.size := by have := hbw.size; unfold Same at hB0; omega
        clear hbw1
        by_cases hlt : k < m
        · obtain ⟨ad, rfl, hbd, hcell⟩ := Hd.out (by unfold Same at hm; omega)
          have hck : wr.cell? (ad.add k) = some (.int .i8 (l.getD k 0)) := (hbw.cell (by rw [addblk]; unfold Same at hB0; omega)).trans (hcell k (by unfold Same at hm; omega))
          have hcr : wr.cell? (ad.add (m - 1 - k)) = some (.int .i8 (l.getD (m - 1 - k) 0)) := (hbw.cell (by rw [addblk]; unfold Same at hB0; omega)).trans (hcell (m - 1 - k) (by unfold Same at hm; omega))
          have hi1 : ((m : Int) - 1 - (k : Int)).toNat = m - 1 - k := by omega
          have hs1 := Lib.hid (Hcs.out k hlt)
          have hs2 := Lib.hid (Hgs.out k hlt)
          have hs3 := Hrt.out k hlt
          obtain ⟨x, hx⟩ : ∃ x, x = l.getD k 0 := ⟨_, rfl⟩
          obtain ⟨y, hy⟩ : ∃ y, y = l.getD (m - 1 - k) 0 := ⟨_, rfl⟩
          rw [← hx] at hck
          rw [← hy] at hcr hs3
          have Hx := Lib.hid hx
          have Hs3 := Lib.hid hs3
          obtain ⟨C, hC⟩ : ∃ C, C = cnt l mv k := ⟨_, rfl⟩
          obtain ⟨G, hG⟩ : ∃ G, G = cntG l mv k := ⟨_, rfl⟩
          rw [← hC] at hcn ⊢
          rw [← hG] at hgn ⊢
          have HC := Lib.hid hC
          have HG := Lib.hid hG
          have hcy : (wr.alloc (.cells #[.int .i8 y] 23)).cell? ⟨wr.heap.size, 0, none⟩ = some (.int .i8 y) := by
            have := (lit_reads wr (.int .i8 y) 23).2 (by omega)
            obtain ⟨ad', e, _, h⟩ := this
            cases e
            have := h 0 _ rfl
            rwa [addr_add_zero] at this
          clear hx hy hs3 hC hG hcell hcy
          have hcase : (x ≤ mv ∧ mv ≤ x) ∨ (x ≤ mv ∧ ¬ mv ≤ x) ∨ (¬ x ≤ mv ∧ mv ≤ x) := by omega
          rcases hcase with ⟨hxa, hxb⟩ | ⟨hxa, hxb⟩ | ⟨hxa, hxb⟩
          all_goals
            go_wp2_with (at_builtin; refine wpList_append_any _ rfl (.tmp 125) (.tmp 134) 22 rfl B0 23 i23 _ 1 1 under22 hi hz0 hz1 hz2 rfl (by decide) _ _ _ rfl (hrow.alloc _) _ 1 1 _ [.int .i8 y] rfl (lit_reads _ _ _) (by simp [Value.oneCell']) (by unfold maxLen; omega) (by omega) (by simp; omega) ?_; intro v9 w9 hv9 hg9 hb9)
            go_roundw
            case rel =>
              refine ⟨k + 1, by omega, by go_num, ?_, ?_, ?_, ?_⟩
              · rw [hs1.out, ← Hx.out, ← HC.out]
                first | rw [if_pos (by omega)] | rw [if_neg (by omega)]
                go_num
              · rw [hs2.out, ← Hx.out, ← HG.out]
                first | rw [if_pos (by omega)] | rw [if_neg (by omega)]
                go_num
              · rw [Hs3.out]
                have e : b8 (l.reverse.take k ++ [y]) = b8 (l.reverse.take k) ++ [Value.int .i8 y] := by simp [b8]
                rw [e]; exact hv9
              · exact (hbw.alloc hBw _).grown hg9 (by simp; omega) (fun j e => (hrow.lt j e).1)
            case measure => simp [intOf]; omega
        · obtain rfl : k = m := by omega
          obtain ⟨A9, c9, rfl, hr9⟩ := owns_slice hrow
          have hr9 := hr9 _ hrow
          have e9 : l.reverse.take k = l.reverse := List.take_of_length_le (by have := Hrl.out; omega)
          rw [e9] at hr9
          have cR : Calls Tryd.prog 7 #[.slice A9 k c9] wr fun e w' => Medians e l.reverse ∧ Below wr.heap.size wr w' := by
            have hrl := Hrl.out
            have := median_does l.reverse A9 c9 (by omega) wr (reads_holds (hrl ▸ hr9))
            rw [hrl] at this
            exact this
          have hlow := Hh1.out
          have hhigh := Hh2.out
          obtain ⟨C, hC⟩ : ∃ C, C = cnt l mv k := ⟨_, rfl⟩
          obtain ⟨G, hG⟩ : ∃ G, G = cntG l mv k := ⟨_, rfl⟩
          rw [← hC] at hcn hlow ⊢
          rw [← hG] at hgn hhigh ⊢
          have e1 : decide ((k : Int) ≤ 2 * (C : Int)) = true := decide_eq_true (by omega)
          have e2 : decide ((k : Int) ≤ 2 * (G : Int)) = true := decide_eq_true (by omega)
          clear hC hG e9 hr9 hrow
          go_wp2_with (go_at_call 7; refine cR.mono ?_; rintro e w10 ⟨he, hb10⟩; unfold Medians at he; rw [Hry.out.1, Hry.out.2] at he; subst he)
          go_ret
          have hw0 : w.heap.size ≤ wr.heap.size := hbw.size
          have hfin := hbw.trans (hb10.mono (B' := B0) hBw)
          unfold Same at hB0
          exact ⟨rfl, hB0 ▸ hfin⟩
    · have hmn := med_no hmk
      have Hmn := Lib.hid hmn
      have hm' : l.length = m := hm.symm
      rw [hm'] at hmk
      clear hmn hm'
      have hB0' := hB0
      by_cases hm0 : m = 0
      · have e1 : ((m : Int) == 0) = true := by simp [hm0]
        have Hm0 := Lib.hid hm0
        clear hm0
        go_wp2_with (go_at_call 7; refine (Hmed.out q).mono ?_; rintro e w1 ⟨he, hb1⟩; unfold Medians at he; rw [Hmn.out.1, Hmn.out.2] at he; subst he)
        go_ret
        exact ⟨rfl, ⟨hb1.os, hb1.tape, hb1.output, hb1.size, hb1.block⟩⟩
      · have e1 : ((m : Int) == 0) = false := by simpa using hm0
        have e2 : decide ((4096 : Int) < m) = true := decide_eq_true (by omega)
        go_wp2_with (go_at_call 7; refine (Hmed.out q).mono ?_; rintro e w1 ⟨he, hb1⟩; unfold Medians at he; rw [Hmn.out.1, Hmn.out.2] at he; subst he)
        go_ret
        exact ⟨rfl, ⟨hb1.os, hb1.tape, hb1.output, hb1.size, hb1.block⟩⟩
end Go.Proofs.YtgllkknleombjaaDoor

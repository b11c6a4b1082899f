/- begun. -/
import Derived.Test.YtoilhpmimcbniaaCrowF
import Derived.Deep.CutRange
import Derived.Deep.OwnRows
namespace Go.Proofs.Ytoilhpmimcbniaa
open Go.RowKit

/-- Who waits for u, among the first k tasks. -/
def abv (xss : List (List Int)) : Nat → Nat → List Int
  | 0, _ => []
  | k + 1, u => abv xss k u ++ List.replicate ((row xss k).count (u : Int)) (k : Int)

theorem info5m : (Try.prog.info? 5).map (fun i => (i.zero, i.size, i.bytes)) = some (some (.int .u8 0), 1, 1) := by kernel_rfl
theorem info3m : (Try.prog.info? 3).map (fun i => (i.zero, i.size, i.bytes)) = some (some (.int .i64 0), 1, 8) := by kernel_rfl
theorem info23m : (Try.prog.info? 23).map (fun i => (i.zero, i.size, i.bytes)) = some (some (.slice none 0 0), 1, 24) := by kernel_rfl
theorem under35 : Try.prog.underlying 35 = some (.slice 5) := by kernel_rfl

theorem alloc4 (w : World) (o1 o2 o3 o4 : Obj) : w.grownBy ((((w.alloc o1).alloc o2).alloc o3).alloc o4).drew none ∧
    ((((w.alloc o1).alloc o2).alloc o3).alloc o4).drew.heap[w.heap.size]? = some o1 ∧ ((((w.alloc o1).alloc o2).alloc o3).alloc o4).drew.heap[w.heap.size + 1]? = some o2 ∧
    ((((w.alloc o1).alloc o2).alloc o3).alloc o4).drew.heap[w.heap.size + 1 + 1]? = some o3 ∧ ((((w.alloc o1).alloc o2).alloc o3).alloc o4).drew.heap[w.heap.size + 1 + 1 + 1]? = some o4 := by
  refine ⟨((((World.grownBy_alloc w o1 none).trans (World.grownBy_alloc _ o2 none)).trans (World.grownBy_alloc _ o3 none)).trans (World.grownBy_alloc _ o4 none)).trans ⟨rfl, rfl, rfl, Nat.le_refl _, fun _ _ _ => rfl⟩, ?_, ?_, ?_, ?_⟩
  · show ((((w.alloc o1).alloc o2).alloc o3).alloc o4).heap[w.heap.size]? = _
    rw [heap_alloc_old _ _ (by simp; omega), heap_alloc_old _ _ (by simp; omega), heap_alloc_old _ _ (by simp)]
    exact heap_alloc_new w o1
  · show ((((w.alloc o1).alloc o2).alloc o3).alloc o4).heap[w.heap.size + 1]? = _
    rw [heap_alloc_old _ _ (by simp), heap_alloc_old _ _ (by simp)]
    have h := heap_alloc_new (w.alloc o1) o2
    rwa [show (w.alloc o1).heap.size = w.heap.size + 1 from by simp] at h
  · show ((((w.alloc o1).alloc o2).alloc o3).alloc o4).heap[w.heap.size + 1 + 1]? = _
    rw [heap_alloc_old _ _ (by simp)]
    have h := heap_alloc_new ((w.alloc o1).alloc o2) o3
    rwa [show ((w.alloc o1).alloc o2).heap.size = w.heap.size + 1 + 1 from by simp] at h
  · show ((((w.alloc o1).alloc o2).alloc o3).alloc o4).heap[w.heap.size + 1 + 1 + 1]? = _
    have h := heap_alloc_new (((w.alloc o1).alloc o2).alloc o3) o4
    rwa [show (((w.alloc o1).alloc o2).alloc o3).heap.size = w.heap.size + 1 + 1 + 1 from by simp] at h

theorem made_fl (n : Nat) (z : Value) : (madeCells #[z] n).toList = fl n fun _ => z := by
  rw [toList_madeCells_one]
  apply List.ext_getElem?
  intro j
  by_cases hj : j < n
  · rw [fl_at _ hj]; simp [hj]
  · rw [List.getElem?_eq_none (by simp; omega), List.getElem?_eq_none (by rw [fl_len]; omega)]

theorem made_owns {w : World} {g n : Nat} {z : Value} {e : TypeId} (hn : n ≤ 1048576) (h : w.heap[g]? = some (.cells (madeCells #[z] n) e)) : w.ownsRow 0 e 1 (.slice (some ⟨g, 0, none⟩) n n) n (fl n fun _ => z) := by
  have hsz : (madeCells #[z] n).size = n := by
    have := congrArg List.length (made_fl n z)
    rwa [fl_len, Array.length_toList] at this
  refine ⟨by rw [fl_len]; omega, .inr ⟨g, n, _, rfl, Nat.zero_le _, h, Nat.le_refl _, by unfold maxLen; omega, by omega, ?_⟩⟩
  rw [made_fl, List.take_of_length_le (by rw [fl_len]; omega)]

theorem Board.start {w wx : World} {b g1 g2 g3 n : Nat} (hn : n ≤ 1048576) (hb : wx.heap[b]? = some (.cells #[.slice (some ⟨g1, 0, none⟩) n n, .slice (some ⟨g2, 0, none⟩) n n, .slice (some ⟨g3, 0, none⟩) n n] 67))
    (h1 : wx.heap[g1]? = some (.cells (madeCells #[.int .u8 0] n) 5)) (h2 : wx.heap[g2]? = some (.cells (madeCells #[.int .i64 0] n) 3)) (h3 : wx.heap[g3]? = some (.cells (madeCells #[.slice none 0 0] n) 23))
    (ne : b ≠ g1 ∧ b ≠ g2 ∧ b ≠ g3 ∧ g1 ≠ g2 ∧ g1 ≠ g3 ∧ g2 ≠ g3) (hF : w.heap.size ≤ b ∧ w.heap.size ≤ g1 ∧ w.heap.size ≤ g2 ∧ w.heap.size ≤ g3) :
    Board wx (fun x => w.heap.size ≤ x) b g1 g2 g3 n (fun _ => 0) (fun _ => 0) (fun _ => []) (fun _ => .slice none 0 0) :=
  ⟨hb, made_owns hn h1, made_owns hn h2, made_owns hn h3, fun _ _ => World.ownsRow_nil _ _ _ _, ne, fun _ _ _ e => (by cases e), fun _ _ _ _ _ e => (by cases e), hF⟩

set_option maxHeartbeats 2000000 in
theorem begun_does (xss : List (List Int)) (hl : xss.length ≤ 1048576) (hs : ∀ j, (row xss j).length ≤ 1048576) (hab : ∀ k u, (abv xss k u).length ≤ 1048576) (hmay : MayP xss) (A : Option Addr) (bA c : Nat) (w : World) (hB : bA ≤ w.heap.size) (ha : LL w bA A xss) :
    Calls Try.prog 38 #[.slice A xss.length c] w fun e w' => w.grownBy w' none ∧ ∃ b g1 g2 g3 F vf, e = .returned (.pointer (some ⟨b, 0, none⟩)) ∧ (∀ x, F x → w.heap.size ≤ x) ∧
      Board w' F b g1 g2 g3 xss.length (fun _ => 0) (fun j => (row xss j).length) (abv xss xss.length) vf := by
  obtain ⟨i3, hi3, hz3, hs3, hb3⟩ := info3
  obtain ⟨n, hn⟩ : ∃ n, n = xss.length := ⟨_, rfl⟩
  have ha' := fun j (hj : j < n) => ha.at_ (hn ▸ hj)
  obtain ⟨hm1, hm2⟩ := hmay
  rw [← hn] at hl hm1 hm2 ⊢
  replace hn : Same n xss.length := hn
  clear ha
  have hmk1 := run_make_row' (P := Try.prog) 35 5 (.int .u8 0) 1 under35 info5m rfl .i64 .i64 n (by omega) (by omega)
  have hmk2 := run_make_row' (P := Try.prog) 23 3 (.int .i64 0) 8 under23 info3m rfl .i64 .i64 n (by omega) (by omega)
  have hmk3 := run_make_row' (P := Try.prog) 22 23 (.slice none 0 0) 24 under22 info23m rfl .i64 .i64 n (by omega) (by omega)
  go_enter Try.func38, Try.ntmps38
  go_upto_region 1 with fail
  go_cut [3] from 8 to 18 (fun p wx => ∃ b g1 g2 g3, p = .pointer (some ⟨b, 0, none⟩) ∧ w.grownBy wx none ∧
    Board wx (fun x => w.heap.size ≤ x) b g1 g2 g3 n (fun _ => 0) (fun _ => 0) (fun _ => []) (fun _ => .slice none 0 0))
  case first =>
    go_region
    all_goals (go_wp2_with fail; go_meet)
    all_goals first
      | exact ⟨_, _, _, _, rfl, (alloc4 w _ _ _ _).1, Board.start hl (alloc4 w _ _ _ _).2.2.2.2 (alloc4 w _ _ _ _).2.1 (alloc4 w _ _ _ _).2.2.1 (alloc4 w _ _ _ _).2.2.2.1 (by omega) (by omega)⟩
      | exact ⟨_, _, _, _, rfl, (alloc4 w _ _ _ _).1, Board.start hl (alloc4 w _ _ _ _).2.2.2.2 (alloc4 w _ _ _ _).2.1 (alloc4 w _ _ _ _).2.2.2.1 (alloc4 w _ _ _ _).2.2.1 (by omega) (by omega)⟩
      | exact ⟨_, _, _, _, rfl, (alloc4 w _ _ _ _).1, Board.start hl (alloc4 w _ _ _ _).2.2.2.2 (alloc4 w _ _ _ _).2.2.1 (alloc4 w _ _ _ _).2.1 (alloc4 w _ _ _ _).2.2.2.1 (by omega) (by omega)⟩
      | exact ⟨_, _, _, _, rfl, (alloc4 w _ _ _ _).1, Board.start hl (alloc4 w _ _ _ _).2.2.2.2 (alloc4 w _ _ _ _).2.2.2.1 (alloc4 w _ _ _ _).2.1 (alloc4 w _ _ _ _).2.2.1 (by omega) (by omega)⟩
      | exact ⟨_, _, _, _, rfl, (alloc4 w _ _ _ _).1, Board.start hl (alloc4 w _ _ _ _).2.2.2.2 (alloc4 w _ _ _ _).2.2.1 (alloc4 w _ _ _ _).2.2.2.1 (alloc4 w _ _ _ _).2.1 (by omega) (by omega)⟩
      | exact ⟨_, _, _, _, rfl, (alloc4 w _ _ _ _).1, Board.start hl (alloc4 w _ _ _ _).2.2.2.2 (alloc4 w _ _ _ _).2.2.2.1 (alloc4 w _ _ _ _).2.2.1 (alloc4 w _ _ _ _).2.1 (by omega) (by omega)⟩
  case rest =>
    obtain ⟨b, g1, g2, g3, rfl, hg0, hbd0⟩ := hcut
    clear hmk1 hmk2 hmk3
    obtain ⟨B0, hB0⟩ : ∃ B0, B0 = w.heap.size := ⟨_, rfl⟩
    rw [← hB0] at hB
    replace hB0 : Same B0 w.heap.size := hB0
    have hbd0 : Board wc (fun x => B0 ≤ x) b g1 g2 g3 n (fun _ => 0) (fun _ => 0) (fun _ => []) (fun _ => .slice none 0 0) := by unfold Same at hB0; rw [hB0]; exact hbd0
    go_wp2
    go_loopw [21] (fun i wr => ∃ k vf, k ≤ n ∧ i = .int .i64 k ∧ w.grownBy wr none ∧ Board wr (fun x => B0 ≤ x) b g1 g2 g3 n (fun _ => 0) (fun j => if j < k then ((row xss j).length : Int) else 0) (abv xss k) vf) (fun i _ => n - (intOf i).toNat)
    case atStart => exact ⟨0, _, Nat.zero_le _, rfl, hg0, hbd0⟩
    case round =>
      obtain ⟨k, vf, hk, rfl, hgw, hbd⟩ := hrel
      by_cases hlt : k < n
      · obtain ⟨ad, A', c', rfl, hbl, hx, hxs0⟩ := ha' k hlt
        have hkeep := keep_of_grown hgw (B := bA) (by unfold Same at hB0; omega) (by simp)
        have hx := (hkeep _ (by rw [block_of_add]; exact hbl)).trans hx
        have hsk := hs k
        have hmk := hm2 k hlt
        obtain ⟨m, hm⟩ : ∃ m, m = (row xss k).length := ⟨_, rfl⟩
        rw [← hm] at hx hxs0 hsk hmk
        replace hm : Same m (row xss k).length := hm
        clear ha' hkeep
        obtain ⟨hc0, hc1, hc2⟩ := hbd.cells
        have hl2 := hbd.at2 hlt
        have hf2 := hbd.s2.frozenAt k
        obtain ⟨hbd2, hch2⟩ := hbd.set2 k (m : Int)
        have hgw2 := grow_chg hgw hch2 (fun x e => by unfold Same at hB0; rw [← hB0, e]; exact hbd.own.2.2.1)
        go_wp2
        go_loopw [36] (fun i wq => ∃ j vf, j ≤ m ∧ i = .int .i64 j ∧ w.grownBy wq none ∧ Board wq (fun x => B0 ≤ x) b g1 g2 g3 n (fun _ => 0) (fun j => if j < k + 1 then ((row xss j).length : Int) else 0) (fun u => abv xss k u ++ List.replicate (((row xss k).take j).count (u : Int)) (k : Int)) vf) (fun i _ => m - (intOf i).toNat)
        case atStart =>
          refine ⟨0, vf, Nat.zero_le _, rfl, hgw2, ?_⟩
          have e1 : upd1 (fun j => if j < k then ((row xss j).length : Int) else 0) k (m : Int) = fun j => if j < k + 1 then ((row xss j).length : Int) else 0 := by
            funext j; unfold upd1
            by_cases hjk : j = k
            · subst hjk; unfold Same at hm; simp [hm]
            · by_cases h : j < k
              · simp only [if_neg hjk, if_pos h, if_pos (show j < k + 1 by omega)]
              · simp only [if_neg hjk, if_neg h, if_neg (show ¬ j < k + 1 by omega)]
          rw [e1] at hbd2
          simpa using hbd2
        case round =>
          obtain ⟨j, vf, hj, rfl, hgq, hbq⟩ := hrel
          by_cases hlj : j < m
          · have hkq := keep_of_grown hgq (B := bA) (by unfold Same at hB0; omega) (by simp)
            obtain ⟨bd, u, rfl, hbd', hy, hcu⟩ := hxs0.at_ hlj
            obtain rfl := ints_at hy
            have hcu := (hkq _ (by rw [block_of_add]; exact hbd')).trans hcu
            obtain ⟨hu0, hu1⟩ := hmk j hlj
            obtain ⟨u, hu⟩ : ∃ u, u = (row xss k).getD j 0 := ⟨_, rfl⟩
            rw [← hu] at hcu hu0 hu1
            replace hu : Same u ((row xss k).getD j 0) := hu
            obtain ⟨u, rfl⟩ := Int.eq_ofNat_of_zero_le hu0
            have hun : u < n := by omega
            clear hy hxs0 hkq hmk hu0
            obtain ⟨hq0, hq1, hq2⟩ := hbq.cells
            have hq3 := hbq.at3 hun
            have hfq := hbq.s3.frozenAt u
            have hgr : wr.grownBy (wr.alloc (.cells #[.int .i64 k] 3)).drew none := (World.grownBy_alloc wr (.cells #[.int .i64 k] 3) none).trans ⟨rfl, rfl, rfl, Nat.le_refl _, fun _ _ _ => rfl⟩
            have hba := hbq.other (Chg.of_grown hgr) (fun x e => by cases e)
            obtain ⟨ha0, ha1, ha2⟩ := hba.cells
            have ha3 := hba.at3 hun
            have ha2' : (wr.alloc (.cells #[.int .i64 k] 3)).cell? ⟨b, 2, none⟩ = some (.slice (some ⟨g3, 0, none⟩) n n) := ha2
            have ha3' : (wr.alloc (.cells #[.int .i64 k] 3)).cell? ⟨g3, u, none⟩ = some (vf u) := ha3
            clear ha0 ha1 hq0 hq1
            have hrow := hba.rows u hun
            have hlen : (abv xss k u ++ List.replicate (((row xss k).take j).count (u : Int)) (k : Int)).length ≤ 1048576 := by
              refine Nat.le_trans ?_ (hab (k + 1) u)
              simp only [abv, List.length_append, List.length_replicate]
              have := (List.take_sublist j (row xss k)).count_le (u : Int)
              omega
            have hfin : ∀ (w1 : World) (v1 : Value), w1.ownsRow 0 3 1 v1 ((abv xss k u ++ List.replicate (((row xss k).take j).count (u : Int)) (k : Int)).length + 1) (ints (abv xss k u ++ List.replicate (((row xss k).take j).count (u : Int)) (k : Int)) ++ [.int .i64 (k : Int)]) →
                (wr.alloc (.cells #[.int .i64 k] 3)).drew.grownBy w1 (vf u).ownBlock → (v1.ownBlock = (vf u).ownBlock ∨ v1.ownBlock = some (wr.alloc (.cells #[.int .i64 k] 3)).drew.heap.size) →
                w.grownBy (w1.setCell ⟨g3, u, none⟩ v1) none ∧ ∃ vf, Board (w1.setCell ⟨g3, u, none⟩ v1) (fun x => B0 ≤ x) b g1 g2 g3 n (fun _ => 0) (fun j => if j < k + 1 then ((row xss j).length : Int) else 0) (fun u => abv xss k u ++ List.replicate (((row xss k).take (j + 1)).count (u : Int)) (k : Int)) vf := fun w1 v1 h1 h2 h3 => by
              obtain ⟨hp, hch⟩ := hbq.push3 hun hgr h1 h2 h3
              unfold Same at hB0
              refine ⟨grow_chg hgq hch (fun x e => hB0 ▸ e), upd1 vf u v1, ?_⟩
              have e2 : (fun u' => abv xss k u' ++ List.replicate (((row xss k).take (j + 1)).count (u' : Int)) (k : Int)) = upd1 (fun u' => abv xss k u' ++ List.replicate (((row xss k).take j).count (u' : Int)) (k : Int)) u (abv xss k u ++ List.replicate (((row xss k).take j).count (u : Int)) (k : Int) ++ [(k : Int)]) := by
                funext u'
                unfold Same at hu hm
                have hjl : j < (row xss k).length := by omega
                have ht : (row xss k).take (j + 1) = (row xss k).take j ++ [(u : Int)] := by
                  rw [List.take_succ_eq_append_getElem hjl, hu, List.getD_eq_getElem?_getD, List.getElem?_eq_getElem hjl, Option.getD_some]
                by_cases h : u' = u
                · subst h
                  simp only [upd1, if_true, ht, List.count_append, List.count_singleton_self]
                  rw [List.replicate_succ', List.append_assoc]
                · have : ((u : Int) == (u' : Int)) = false := by simp; omega
                  simp only [upd1, if_neg h, ht, List.count_append, List.count_singleton, this]
                  simp
              rw [e2]
              exact hp.mono (fun x e => by rcases e with e | e; exact e; have := hgq.size; omega)
            obtain ⟨ys, hys⟩ : ∃ ys, ys = abv xss k u ++ List.replicate (((row xss k).take j).count (u : Int)) (k : Int) := ⟨_, rfl⟩
            simp only [← hys] at hrow hlen hfin
            replace hys : Same ys (abv xss k u ++ List.replicate (((row xss k).take j).count (u : Int)) (k : Int)) := hys
            go_upto_region 9 with fail
            go_region_law (refine step_append_any _ rfl (.tmp 51) (.tmp 53) 23 rfl 0 3 i3 _ 1 8 under23 hi3 hz3 hs3 hb3 rfl (by decide) _ _ _ rfl hrow _ 1 1 _ [.int .i64 k] rfl (lit_reads _ _ _) (by simp [Value.oneCell']) (by unfold maxLen; omega) (by omega) (by omega) ?_; intro v1 w1 hv1 hg1 hb1; obtain ⟨hd1, hd2, hd3⟩ := hba.during hun hg1; obtain ⟨gv, capv, rfl, hgv1, hgv2, hgv3, hgv4⟩ := owns_form hv1 (Nat.succ_pos _))
            all_goals
              obtain ⟨hz1, vf', hz2⟩ := hfin _ _ hv1 hg1 hb1
              clear hfin hv1 hg1 hb1 hd1 hd2 hd3 hba hbq hrow ha2' ha3' ha2 ha3 hq2 hq3 hfq
              go_wp2_with fail
              go_roundw
              case rel => exact ⟨j + 1, vf', by omega, by go_num, hz1, hz2⟩
              case measure => simp [intOf]; omega
          · obtain rfl : j = m := by omega
            go_wp2
            go_roundw
            case rel =>
              refine ⟨k + 1, vf, by omega, by go_num, hgq, ?_⟩
              unfold Same at hm
              rw [hm, List.take_length] at hbq
              exact hbq
            case measure => simp [intOf]; omega
      · obtain rfl : k = n := by omega
        go_wp2
        go_ret
        refine ⟨hgw, b, g1, g2, g3, (fun x => B0 ≤ x), vf, rfl, fun x e => ?_, ?_⟩
        · unfold Same at hB0; exact hB0 ▸ e
        · have e1 : (fun j => ((row xss j).length : Int)) = fun j => if j < k then ((row xss j).length : Int) else 0 := by
            funext j
            by_cases h : j < k
            · rw [if_pos h]
            · rw [if_neg h]
              unfold Same at hn
              unfold row
              rw [List.getD_eq_getElem?_getD, List.getElem?_eq_none (by omega)]
              rfl
          rw [e1]
          exact hbd
end Go.Proofs.Ytoilhpmimcbniaa

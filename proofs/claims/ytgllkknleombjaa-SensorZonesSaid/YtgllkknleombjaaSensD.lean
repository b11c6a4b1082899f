/- The law SensorZones, walked. -/
import Derived.Test.YtgllkknleombjaaSensC
namespace Go.Proofs.Ytgllkknleombjaa
open Go.RowKit Go.Sort



theorem below_of_grown {B : Nat} {w a b : World} (h : Below B w a) (hB : B ≤ a.heap.size) (hg : a.grownBy b none) : Below B w b := h.grown hg hB (fun _ e => by cases e)

theorem Both.drewSet {B0 ga ca gb cb : Nat} {xs ys : List Int} {w : World} {q : Nat} {p : Addr} {v : Value} (h : Both B0 ga ca gb cb xs ys (w.setCell p v)) : Both B0 ga ca gb cb xs ys ((w.drewN q).setCell p v) := ⟨h.a, h.b, h.ne⟩
theorem below_drewSet {B : Nat} {w a : World} {q : Nat} {p : Addr} {v : Value} (h : Below B w (a.setCell p v)) : Below B w ((a.drewN q).setCell p v) := ⟨h.os, h.tape, h.output, h.size, h.block⟩

set_option maxRecDepth 20000 in
set_option maxHeartbeats 4000000 in
theorem zones_true (marks l : List Int) (d : Int) (hsa : Small marks) (hsb : Small l) (hna : marks.length ≤ 140737488351232) (hnb : l.length ≤ 140737488351232) (A D : Option Addr) (c c' : Nat) (w : World) (ha : Holds8 w w.heap.size A marks) (hd : Holds8 w w.heap.size D l) :
    Calls Try.prog 3 #[.slice A marks.length c, .int .i8 d, .slice D l.length c'] w fun e w' => e = .returned (.bool true) ∧ Below w.heap.size w w' := by
  obtain ⟨i23, hi, hz0, hz1, hz2⟩ := info_parts info23
  obtain ⟨n, hn⟩ : ∃ n, n = marks.length := ⟨_, rfl⟩
  obtain ⟨m, hm⟩ : ∃ m, m = l.length := ⟨_, rfl⟩
  obtain ⟨B0, hB0⟩ : ∃ B0, B0 = w.heap.size := ⟨_, rfl⟩
  have hra := holds_reads ha
  have hrd := holds_reads hd
  rw [← hB0] at hra hrd ha hd ⊢
  rw [← hn] at hra hna ⊢
  rw [← hm] at hrd hnb ⊢
  have hl0 := World.ownsRow_lit (base := B0) (size := 1) (e := 23) w #[] 0 (Nat.le_of_eq hB0) (by decide) rfl
  have hx0 : Reads (w.alloc (.cells #[] 23)) B0 1 A n (b8 marks) := hra.keep (keep_of_grown (World.grownBy_alloc w _ none) (Nat.le_of_eq hB0) (by simp))
  have hBle : B0 ≤ w.heap.size := Nat.le_of_eq hB0
  replace hB0 : Same B0 w.heap.size := hB0
  replace hn : Same n marks.length := hn
  replace hm : Same m l.length := hm
  go_enter Try.func3, Try.ntmps3
  go_upto_region 2 with (first
    | (at_builtin; refine wpList_append_any _ rfl (.tmp 20) (.tmp 21) 22 rfl B0 23 i23 _ 1 1 under22 hi hz0 hz1 hz2 rfl (by decide) _ 0 [] rfl hl0 A n c B0 (b8 marks) rfl hx0 (b8_one _) (by unfold maxLen; omega) (by omega) (by simp; omega) ?_; intro v1 w1 hv1 hg1 hb1)
    | (at_builtin; refine wpList_append_any _ rfl (.tmp 22) (.tmp 23) 22 rfl B0 23 i23 _ 1 1 under22 hi hz0 hz1 hz2 rfl (by decide) _ _ _ rfl (hv1.alloc _) _ 1 1 _ [.int .i8 77] rfl (lit_reads _ _ _) (by simp [Value.oneCell']) (by unfold maxLen; omega) (by omega) (by have := hg1.size; simp at this ⊢; omega) ?_; intro v2 w2 hv2 hg2 hb2; rw [Nat.zero_add, List.nil_append] at hv2; obtain ⟨ga, ca, rfl, _, _, hcal, _⟩ := owns_form hv2 (Nat.succ_pos _); have hall := grown3 hg1 hb1 hg2))
  have hb2 : Below B0 w w2 := below_of_grown (Below.refl _ _) hBle hall
  have hsz2 := hall.size
  have hva : w2.ownsRow B0 23 1 (.slice (some ⟨ga, 0, none⟩) (n + 1) ca) (n + 1) (b8 (marks ++ [77])) := by
    have e : b8 marks ++ [Value.int .i8 77] = b8 (marks ++ [77]) := by simp [b8]
    rw [← e]; exact hv2
  have hl2 := World.ownsRow_lit (base := B0) (size := 1) (e := 23) w2 #[] 0 (by omega) (by decide) rfl
  have hx2 : Reads (w2.alloc (.cells #[] 23)) B0 1 D m (b8 l) := (hrd.keep (keep_of_grown hall hBle (by simp))).keep (keep_of_grown (World.grownBy_alloc w2 _ none) (by omega) (by simp))
  clear hv1 hg1 hb1 hv2 hg2 hl0 hx0
  go_upto_region 3 with (first
    | (at_builtin; refine wpList_append_any _ rfl (.tmp 25) (.tmp 26) 22 rfl B0 23 i23 _ 1 1 under22 hi hz0 hz1 hz2 rfl (by decide) _ 0 [] rfl hl2 D m c' B0 (b8 l) rfl hx2 (b8_one _) (by unfold maxLen; omega) (by omega) (by simp; omega) ?_; intro v3 w3 hv3 hg3 hb3)
    | (at_builtin; refine wpList_append_any _ rfl (.tmp 27) (.tmp 28) 22 rfl B0 23 i23 _ 1 1 under22 hi hz0 hz1 hz2 rfl (by decide) _ _ _ rfl (hv3.alloc _) _ 1 1 _ [.int .i8 77] rfl (lit_reads _ _ _) (by simp [Value.oneCell']) (by unfold maxLen; omega) (by omega) (by have := hg3.size; simp at this ⊢; omega) ?_; intro v4 w4 hv4 hg4 hb4; rw [Nat.zero_add, List.nil_append] at hv4; obtain ⟨gb, cb, rfl, _, _, hcbl, _⟩ := owns_form hv4 (Nat.succ_pos _); have hall4 := grown3 hg3 hb3 hg4))
  have hb4' : Below B0 w w4 := below_of_grown hb2 (by omega) hall4
  have hgb : w2.heap.size ≤ gb := by
    rcases hb4 with e | e
    · have e : some gb = v3.ownBlock := e
      rcases hb3 with e' | e' <;> rw [e'] at e <;> cases e <;> simp
    · cases e; have := hg3.size; simp at this ⊢; omega
  have hbo : Both B0 ga ca gb cb marks l w4 := by
    refine ⟨?_, ?_, fun e => by have := (hva.lt ga rfl).2; omega⟩
    · unfold Same at hn; rw [← hn]; exact hva.kept hall4 (.inr (by simp [Value.ownBlock]))
    · unfold Same at hm; rw [← hm]
      have e : b8 l ++ [Value.int .i8 77] = b8 (l ++ [77]) := by simp [b8]
      rw [← e]; exact hv4
  clear hv3 hg3 hb3 hv4 hg4 hb4 hl2 hx2 hva hra hrd hall hall4 hb2
  have Ha := Lib.hid ha
  have Hd := Lib.hid hd
  clear ha hd
  go_wp2
  go_loopw [9] (fun x wr => ∃ (k : Nat) (xs ys : List Int), k ≤ 2 ∧ x = .int .i64 (k : Nat) ∧ Both B0 ga ca gb cb xs ys wr ∧ Below B0 w wr ∧ Same xs.length n ∧ Same ys.length m ∧ Small xs ∧ Small ys ∧ (k = 0 → xs = marks ∧ ys = l)) (fun x _ => 2 - (intOf x).toNat)
  case atStart => exact ⟨0, marks, l, by omega, rfl, hbo, hb4', hn.symm, hm.symm, hsa, hsb, fun _ => ⟨rfl, rfl⟩⟩
  case round =>
    obtain ⟨k, xs, ys, hk, rfl, hbo, hbw, hxn, hyn, hxs, hys, hk0⟩ := hrel
    have Hk0 := Lib.hid hk0
    clear hk0
    by_cases hlt : k < 2
    · have hxl : xs.length = n := hxn
      have hyl : ys.length = m := hyn
      have hsz := hbw.size
      have hBr : B0 ≤ wr.heap.size := by unfold Same at hB0; omega
      obtain ⟨hpa, hla, _, _, hca, _⟩ := row_prefix hbo.a
      obtain ⟨hpb, hlb, _, _, hcb, _⟩ := row_prefix hbo.b
      have hl6 := World.ownsRow_lit (base := B0) (size := 1) (e := 23) wr #[] 0 hBr (by decide) rfl
      have hx6 : Reads (wr.alloc (.cells #[] 23)) wr.heap.size 1 (some ⟨ga, 0, none⟩) n (b8 xs) := hxl ▸ (holds_reads hpa).keep (keep_of_grown (World.grownBy_alloc wr _ none) (Nat.le_refl _) (by simp))
      rw [hxl] at hca hla
      rw [hyl] at hcb hlb
      clear hxl hyl
      go_upto_region 7 with (first
        | (at_builtin; refine wpList_append_any _ rfl (.tmp 35) (.tmp 39) 22 rfl B0 23 i23 _ 1 1 under22 hi hz0 hz1 hz2 rfl (by decide) _ 0 [] rfl hl6 (some ⟨ga, 0, none⟩) n ca wr.heap.size (b8 xs) rfl hx6 (b8_one _) (by unfold maxLen; omega) (by omega) (by simp; omega) ?_; intro v5 w5 hv5 hg5 hb5; rw [Nat.zero_add, List.nil_append] at hv5; obtain ⟨A5, c5, rfl, hr5⟩ := owns_slice hv5; have hr5 := hr5 _ hv5; have hg5' : wr.grownBy w5 none := (((World.grownBy_alloc wr (.cells #[] 23) none).andThen hg5 (fun j e => by cases e; exact .inl (Nat.le_refl _))) : _); have cz : Calls Try.prog 4 #[.slice A5 n c5, .int .i8 d] w5 fun e w' => Zoned e xs d ∧ ∃ q, w' = w5.drewN q := (by have hxl : xs.length = n := hxn; have := refZone_does xs d A5 w5.heap.size c5 (by omega) w5 (reads_holds (hxl ▸ hr5)); rw [hxl] at this; exact this))
        | (go_at_call 4; refine cz.mono ?_; rintro e w6 ⟨he, q6, rfl⟩; unfold Zoned at he; subst he))
      have hbo5 : Both B0 ga ca gb cb xs ys w5 := hbo.kept hg5' (fun _ e => by cases e)
      have hbw5 : Below B0 w w5 := below_of_grown hbw hBr hg5'
      have hs5 := hg5'.size
      have cz2 : Calls Try.prog 5 #[.slice (some ⟨ga, 0, none⟩) n ca, .int .i8 d] (w5.drewN q6) fun e w' => Zoned e xs d ∧ ∃ q, w' = w5.drewN q := by
        have hxl : xs.length = n := hxn
        have := zone_does xs d (some ⟨ga, 0, none⟩) w5.heap.size ca (by omega) (w5.drewN q6) (row_prefix hbo5.a).1
        rw [hxl] at this
        exact this.mono fun e w' ⟨he, q, hq⟩ => ⟨he, q6 + q, by rw [hq, World.drewN_drewN]⟩
      clear cz hv5 hg5 hb5 hr5 hl6 hx6
      go_upto_region 8 with (go_at_call 5; refine cz2.mono ?_; rintro e w7 ⟨he, q7, rfl⟩; unfold Zoned at he; subst he)
      have hl8 := World.ownsRow_lit (base := B0) (size := 1) (e := 23) (w5.drewN q7) #[] 0 (by show B0 ≤ w5.heap.size; omega) (by decide) rfl
      have hB8 : B0 ≤ ((w5.drewN q7).alloc (.cells #[] 23)).heap.size := by rw [World.size_alloc]; show B0 ≤ w5.heap.size + 1; omega
      have hx8 : Reads ((w5.drewN q7).alloc (.cells #[] 23)) w5.heap.size 1 (some ⟨gb, 0, none⟩) m (b8 ys) := by
        have hyl : ys.length = m := hyn
        exact hyl ▸ ((holds_reads (row_prefix hbo5.b).1).drewN q7).keep (keep_of_grown (World.grownBy_alloc (w5.drewN q7) _ none) (Nat.le_refl _) (by simp))
      clear cz2
      go_upto_region 9 with (at_builtin; refine wpList_append_any _ rfl (.tmp 55) (.tmp 59) 22 rfl B0 23 i23 _ 1 1 under22 hi hz0 hz1 hz2 rfl (by decide) _ 0 [] rfl hl8 (some ⟨gb, 0, none⟩) m cb w5.heap.size (b8 ys) rfl hx8 (b8_one _) (by unfold maxLen; omega) (by omega) hB8 ?_)
      intro v8 w8 hv8 hg8 hb8
      try rw [Nat.zero_add, List.nil_append] at hv8
      obtain ⟨A8, c8, rfl, hr8⟩ := owns_slice hv8
      have hr8 := hr8 _ hv8
      have hg8' : (w5.drewN q7).grownBy w8 none := (World.grownBy_alloc (w5.drewN q7) (.cells #[] 23) none).andThen hg8 (fun j e => by cases e; exact .inl (Nat.le_refl _))
      have cm : Calls Try.prog 6 #[.slice A8 m c8] w8 fun e w' => Medians e ys ∧ w8 = w' := by
        have hyl : ys.length = m := hyn
        have := refMedian_does ys hys A8 w8.heap.size c8 (by omega) w8 (reads_holds (hyl ▸ hr8))
        rw [hyl] at this
        exact this.mono fun e w' ⟨he, hw⟩ => ⟨he, hw.symm⟩
      go_upto_region 9 with (go_at_call 6; refine cm.mono ?_; rintro e w9 ⟨he, rfl⟩; unfold Medians at he; subst he)
      have hbo8 : Both B0 ga ca gb cb xs ys w8 := Both.kept (w := w5.drewN q7) ⟨hbo5.a, hbo5.b, hbo5.ne⟩ hg8' (fun _ e => by cases e)
      have hbw8 : Below B0 w w8 := below_of_grown (a := w5.drewN q7) ⟨hbw5.os, hbw5.tape, hbw5.output, hbw5.size, hbw5.block⟩ (by show B0 ≤ w5.heap.size; omega) hg8'
      have hs8 := hbw8.size
      have cm2 : Calls Try.prog 7 #[.slice (some ⟨gb, 0, none⟩) m cb] w8 fun e w' => Medians e ys ∧ Below w8.heap.size w8 w' := by
        have hyl : ys.length = m := hyn
        have := median_does ys (some ⟨gb, 0, none⟩) cb (by omega) w8 (row_prefix hbo8.b).1
        rw [hyl] at this
        exact this
      clear cm hv8 hg8 hb8 hr8 hl8 hx8
      go_upto_region 10 with (go_at_call 7; refine cm2.mono ?_; rintro e w10 ⟨he, hb10⟩; unfold Medians at he; subst he)
      have hg10 : w8.grownBy w10 none := ⟨hb10.os, hb10.tape, hb10.output, hb10.size, fun j hj _ => hb10.block j hj⟩
      have hbo10 : Both B0 ga ca gb cb xs ys w10 := hbo8.kept hg10 (fun _ e => by cases e)
      have hbw10 : Below B0 w w10 := below_of_grown hbw8 (by unfold Same at hB0; omega) hg10
      have hs10 := hg10.size
      have hma : w10.cell? ⟨ga, n, none⟩ = some (.int .i8 77) := by
        have hxl : xs.length = n := hxn
        have := (row_prefix hbo10.a).2.1
        rwa [hxl] at this
      have hmb : w10.cell? ⟨gb, m, none⟩ = some (.int .i8 77) := by
        have hyl : ys.length = m := hyn
        have := (row_prefix hbo10.b).2.1
        rwa [hyl] at this
      clear cm2 hbo hbo5 hbo8 hbw hbw5 hbw8 hpa hpb hla hlb hg5' hg8' hb10 hg10
      go_upto_region 12 with (fail)
      clear hma hmb
      go_wp2
      go_loopw [18] (fun x wq => ∃ (i : Nat) (zs : List Int), i ≤ n ∧ x = .int .i64 (i : Nat) ∧ Both B0 ga ca gb cb zs ys wq ∧ Below B0 w wq ∧ Same zs.length n ∧ Small zs ∧ (k = 0 → From i zs marks)) (fun x _ => n - (intOf x).toNat)
      case atStart => exact ⟨0, xs, Nat.zero_le _, rfl, hbo10, hbw10, hxn, hxs, fun e j _ _ => by rw [(Hk0.out e).1]⟩
      case round =>
        obtain ⟨i, zs, hin, rfl, hbz, hbwz, hzn, hzs, hzm⟩ := hrel
        have Hzm := Lib.hid hzm
        have hzl : zs.length = n := hzn
        clear hzm hbo10 hbw10
        by_cases hilt : i < n
        · have hmn : marks.length = n := hn.symm
          obtain ⟨_, _, hcell, hfz, _, _⟩ := row_prefix hbz.a
          have hci := hcell i (by omega)
          have hfi := hfz i
          obtain ⟨x, hx⟩ : ∃ x, x = zs.getD i 0 := ⟨_, rfl⟩
          rw [← hx] at hci
          have Hx := Lib.hid hx
          have hmark : k = 0 → ∃ ad, A = some ad ∧ wr.cell? (ad.add i) = some (.int .i8 x) := fun e => by
            obtain ⟨ad, e2, hb, hc⟩ := Ha.out (by omega)
            refine ⟨ad, e2, ?_⟩
            rw [hbwz.cell (by rw [addblk]; exact hb), hc i (by omega), Hx.out, Hzm.out e i (Nat.le_refl _) (by omega)]
          have hset := fun v => hbz.setA (i := i) (by omega) v
          have hfrom := fun v (e : k = 0) => (Hzm.out e).set v
          have hbel : ∀ v, Below B0 w (wr.setCell ⟨ga, i, none⟩ (.int .i8 v)) := fun v => hbwz.grown (hset v).2 (by have := hbwz.size; unfold Same at hB0; omega) (fun j e => by cases e; exact (hbz.a.lt _ rfl).1)
          have hlen : ∀ v, Same (zs.set i v).length n := fun v => by show _ = _; rw [List.length_set]; exact hzl
          have Hbel := Lib.hid hbel
          have Hlen := Lib.hid hlen
          have Hmark := Lib.hid hmark
          have Hset := Lib.hid hset
          have Hfrom := Lib.hid hfrom
          clear hmark hset hfrom hbel hlen hx hcell hfz hmn hzl
          by_cases hkz : k = 0
          · have hkb : ((k : Int) == 0) = true := by simp [hkz]
            obtain ⟨ad, rfl, hcm⟩ := Hmark.out hkz
            have Hkz := Lib.hid hkz
            clear hkz
            go_wp2
            go_quiet (fail)
            go_wp2
            go_roundw
            case rel => exact ⟨i + 1, zs.set i _, by omega, by go_num, (Hset.out _).1.drewSet, below_drewSet (Hbel.out _), Hlen.out _, small_set hzs _ (wrap8_bounds _), fun e => Hfrom.out _ e⟩
            case measure => simp [intOf]; omega
          · have hkb : ((k : Int) == 0) = false := by simpa using hkz
            clear Hmark
            go_wp2
            go_quiet (fail)
            go_wp2
            go_roundw
            case rel => exact ⟨i + 1, zs.set i _, by omega, by go_num, (Hset.out _).1.drewSet, below_drewSet (Hbel.out _), Hlen.out _, small_set hzs _ (wrap8_bounds _), fun e => absurd e hkz⟩
            case measure => simp [intOf]; omega
        · obtain rfl : i = n := by omega
          clear Hzm hzl
          go_wp2
          go_loopw [19] (fun x wq => ∃ (j : Nat) (us : List Int), j ≤ m ∧ x = .int .i64 (j : Nat) ∧ Both B0 ga ca gb cb zs us wq ∧ Below B0 w wq ∧ Same us.length m ∧ Small us ∧ (k = 0 → From j us l)) (fun x _ => m - (intOf x).toNat)
          case atStart => exact ⟨0, ys, Nat.zero_le _, rfl, hbz, hbwz, hyn, hys, fun e j _ _ => by rw [(Hk0.out e).2]⟩
          case round =>
            obtain ⟨j, us, hjm, rfl, hbu, hbwu, hun, hus, hum⟩ := hrel
            have Hum := Lib.hid hum
            have hul : us.length = m := hun
            clear hum hbz hbwz
            by_cases hjlt : j < m
            · have hml : l.length = m := hm.symm
              obtain ⟨_, _, hcell, hfz, _, _⟩ := row_prefix hbu.b
              have hci := hcell j (by omega)
              have hfi := hfz j
              obtain ⟨x, hx⟩ : ∃ x, x = us.getD j 0 := ⟨_, rfl⟩
              rw [← hx] at hci
              have Hx := Lib.hid hx
              have hmark : k = 0 → ∃ ad, D = some ad ∧ wr.cell? (ad.add j) = some (.int .i8 x) := fun e => by
                obtain ⟨ad, e2, hb, hc⟩ := Hd.out (by omega)
                refine ⟨ad, e2, ?_⟩
                rw [hbwu.cell (by rw [addblk]; exact hb), hc j (by omega), Hx.out, Hum.out e j (Nat.le_refl _) (by omega)]
              have hset := fun v => hbu.setB (i := j) (by omega) v
              have hfrom := fun v (e : k = 0) => (Hum.out e).set v
              have hbel : ∀ v, Below B0 w (wr.setCell ⟨gb, j, none⟩ (.int .i8 v)) := fun v => hbwu.grown (hset v).2 (by have := hbwu.size; unfold Same at hB0; omega) (fun j e => by cases e; exact (hbu.b.lt _ rfl).1)
              have hlen : ∀ v, Same (us.set j v).length m := fun v => by show _ = _; rw [List.length_set]; exact hul
              have Hbel := Lib.hid hbel
              have Hlen := Lib.hid hlen
              have Hmark := Lib.hid hmark
              have Hset := Lib.hid hset
              have Hfrom := Lib.hid hfrom
              clear hmark hset hfrom hbel hlen hx hcell hfz hml hul
              by_cases hkz : k = 0
              · have hkb : ((k : Int) == 0) = true := by simp [hkz]
                obtain ⟨ad, rfl, hcm⟩ := Hmark.out hkz
                have Hkz := Lib.hid hkz
                clear hkz
                go_wp2
                go_quiet (fail)
                go_wp2
                go_roundw
                case rel => exact ⟨j + 1, us.set j _, by omega, by go_num, (Hset.out _).1.drewSet, below_drewSet (Hbel.out _), Hlen.out _, small_set hus _ (wrap8_bounds _), fun e => Hfrom.out _ e⟩
                case measure => simp [intOf]; omega
              · have hkb : ((k : Int) == 0) = false := by simpa using hkz
                clear Hmark
                go_wp2
                go_quiet (fail)
                go_wp2
                go_roundw
                case rel => exact ⟨j + 1, us.set j _, by omega, by go_num, (Hset.out _).1.drewSet, below_drewSet (Hbel.out _), Hlen.out _, small_set hus _ (wrap8_bounds _), fun e => absurd e hkz⟩
                case measure => simp [intOf]; omega
            · obtain rfl : j = m := by omega
              go_wp2
              go_roundw
              case rel => exact ⟨k + 1, zs, us, by omega, by go_num, hbu, hbwu, hzn, hun, hzs, hus, fun e => by omega⟩
              case measure => simp [intOf]; omega
    · obtain rfl : k = 2 := by omega
      go_wp2
      go_ret
      exact ⟨rfl, hbw⟩
end Go.Proofs.Ytgllkknleombjaa

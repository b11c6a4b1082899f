/- The document's Zone and Median. -/
import Derived.Test.YtgllkknleombjaaSensA
namespace Go.Proofs.Ytgllkknleombjaa
open Go.RowKit Go.Sort

set_option maxRecDepth 20000 in
set_option maxHeartbeats 1000000 in
theorem refZone_does (zs : List Int) (d : Int) (A : Option Addr) (B c : Nat) (hz : zs.length ≤ 9223372036854775807) (w : World) (ha : Holds8 w B A zs) :
    Calls Try.prog 4 #[.slice A zs.length c, .int .i8 d] w fun e w' => Zoned e zs d ∧ ∃ q, w' = w.drewN q := by
  obtain ⟨n, hn⟩ : ∃ n, n = zs.length := ⟨_, rfl⟩
  have ha' := fun j (hj : j < n) => (ha (by omega))
  have hyes := zoned_yes (zs := zs) (d := d)
  have hno := zoned_no (zs := zs) (d := d)
  have hcs := fun k (hk : k < n) => cnt_succ zs d (hn ▸ hk)
  rw [← hn] at hz hyes hno ⊢
  have hread : ∀ j, j < n → ∃ ad, A = some ad ∧ ∀ i, i < n → w.cell? (ad.add i) = some (.int .i8 (zs.getD i 0)) := fun j hj => by
    obtain ⟨ad, e, _, h⟩ := ha' j hj
    exact ⟨ad, e, fun i hi => h i (by omega)⟩
  obtain ⟨z, hzf⟩ : ∃ z : Nat → Int, z = fun i => zs.getD i 0 := ⟨_, rfl⟩
  have hclb : ∀ k, climbs zs k ↔ ∀ i, 0 < i → i < k → z (i - 1) < z i := fun k => by rw [hzf]; rfl
  have hcs' : ∀ k, k < n → cnt zs d (k + 1) = cnt zs d k + if z k ≤ d then 1 else 0 := fun k hk => by rw [hzf]; exact hcs k hk
  have hread' : ∀ j, j < n → ∃ ad, A = some ad ∧ ∀ i, i < n → w.cell? (ad.add i) = some (.int .i8 (z i)) := fun j hj => by rw [hzf]; exact hread j hj
  clear ha' ha hcs hread hzf
  have Hyes := Lib.hid hyes
  have Hno := Lib.hid hno
  have Hc := Lib.hid hclb
  have Hs := Lib.hid hcs'
  have Hr := Lib.hid hread'
  clear hyes hno hclb hcs' hread' hn
  go_enter Try.func4, Try.ntmps4
  by_cases hbig : 64 < n
  · go_wp2
    go_ret2
    exact ⟨Hno.out (by omega), 0, rfl⟩
  go_wp2
  go_loopw [6, 7] (fun a i wr => ∃ k q : Nat, k ≤ n ∧ i = .int .i64 k ∧ a = .int .i64 (cnt zs d k : Nat) ∧ wr = w.drewN q ∧ climbs zs k) (fun _ i _ => n - (intOf i).toNat)
  case atStart => exact ⟨0, 0, Nat.zero_le _, rfl, rfl, rfl, fun i _ h => by omega⟩
  case round =>
    obtain ⟨k, q, hk, rfl, rfl, rfl, hcl⟩ := hrel
    have Hcl := Lib.hid hcl
    clear hcl
    by_cases hlt : k < n
    · obtain ⟨ad, rfl, hcell⟩ := Hr.out k hlt
      have hck := hcell k hlt
      have hcn := cnt_le zs d k
      have hs := Lib.hid (Hs.out k hlt)
      have hck' : ∀ q, (w.drewN q).cell? (ad.add k) = some (.int .i8 (z k)) := fun _ => hck
      obtain ⟨x, hx⟩ : ∃ x, x = z k := ⟨_, rfl⟩
      rw [← hx] at hck hck'
      have Hx := Lib.hid hx
      obtain ⟨C, hC⟩ : ∃ C, C = cnt zs d k := ⟨_, rfl⟩
      rw [← hC] at hcn ⊢
      have HC := Lib.hid hC
      clear hx hC
      by_cases h0 : 0 < k
      · have hcp := hcell (k - 1) (by omega)
        obtain ⟨y, hy⟩ : ∃ y, y = z (k - 1) := ⟨_, rfl⟩
        rw [← hy] at hcp
        have hcp' : ∀ q, (w.drewN q).cell? (ad.add (k - 1)) = some (.int .i8 y) := fun _ => hcp
        have Hy := Lib.hid hy
        have hk0 : decide (0 < (k : Int)) = true := by simpa using h0
        have hk1 : ((k : Int) - 1).toNat = k - 1 := by omega
        clear hy hcell
        have hstep : y < x → climbs zs (k + 1) := fun h => (Hc.out _).2 fun i h1 h2 => by
          rcases Nat.lt_or_ge i k with h3 | h3
          · exact (Hc.out k).1 Hcl.out i h1 h3
          · obtain rfl : i = k := by omega
            rw [← Hy.out, ← Hx.out]; exact h
        have hbad : ¬ y < x → ¬ (n ≤ 64 ∧ climbs zs n) := fun h ⟨_, hc⟩ => h (by
          have := (Hc.out n).1 hc k h0 hlt
          rw [← Hy.out, ← Hx.out] at this; exact this)
        have Hstep := Lib.hid hstep
        have Hbad := Lib.hid hbad
        clear hstep hbad
        by_cases hxy : x ≤ y
        · go_wp2
          go_quiet (fail)
          go_wp2
          go_ret2
          exact ⟨Hno.out (Hbad.out (by omega)), _, World.drewN_drewN _ _ _⟩
        · have hxyb : decide (x ≤ y) = false := decide_eq_false hxy
          by_cases hxd : x ≤ d
          · go_wp2
            go_quiet (fail)
            go_wp2
            go_roundw
            case rel => exact ⟨k + 1, _, by omega, by go_num, by rw [hs.out, ← Hx.out, if_pos hxd, ← HC.out]; go_num, rfl, Hstep.out (by omega)⟩
            case measure => simp [intOf]; omega
          · go_wp2
            go_quiet (fail)
            go_wp2
            go_roundw
            case rel => exact ⟨k + 1, _, by omega, by go_num, by rw [hs.out, ← Hx.out, if_neg (by omega), ← HC.out]; go_num, rfl, Hstep.out (by omega)⟩
            case measure => simp [intOf]; omega
      · obtain rfl : k = 0 := by omega
        rw [show ad.add 0 = ad by simp [Addr.add]] at hck hck'
        have hstep : climbs zs (0 + 1) := fun i h1 h2 => by omega
        have Hstep := Lib.hid hstep
        clear hstep hcell
        by_cases hxd : x ≤ d
        · go_wp2
          go_quiet (fail)
          go_wp2
          go_roundw
          case rel => exact ⟨0 + 1, _, by omega, by go_num, by rw [hs.out, ← Hx.out, if_pos hxd, ← HC.out]; go_num, rfl, Hstep.out⟩
          case measure => simp [intOf]; omega
        · go_wp2
          go_quiet (fail)
          go_wp2
          go_roundw
          case rel => exact ⟨0 + 1, _, by omega, by go_num, by rw [hs.out, ← Hx.out, if_neg (by omega), ← HC.out]; go_num, rfl, Hstep.out⟩
          case measure => simp [intOf]; omega
    · obtain rfl : k = n := by omega
      go_wp2
      go_ret2
      exact ⟨Hyes.out (by omega) Hcl.out, _, rfl⟩

set_option maxRecDepth 20000 in
set_option maxHeartbeats 1000000 in
theorem refMedian_does (zs : List Int) (hsm : Small zs) (A : Option Addr) (B c : Nat) (hz : zs.length ≤ 9223372036854775807) (w : World) (ha : Holds8 w B A zs) :
    Calls Try.prog 6 #[.slice A zs.length c] w fun e w' => Medians e zs ∧ w' = w := by
  have hno := medians_no (zs := zs)
  have Hno := Lib.hid hno
  clear hno
  by_cases h0 : 0 < zs.length
  · by_cases h1 : zs.length ≤ 4096
    · obtain ⟨m, hm⟩ : ∃ m, m = (up zs).getD ((zs.length - 1) / 2) 0 := ⟨_, rfl⟩
      have hyes := medians_yes h0 h1 hm
      obtain ⟨hh1, hh2⟩ := med_half zs h0 hm
      have hms := med_small hsm
      rw [(med_yes h0 h1).1, ← hm] at hms
      obtain ⟨hm1, hm2⟩ := hms
      obtain ⟨ad, rfl, _, hcell⟩ := ha h0
      obtain ⟨n, hn⟩ : ∃ n, n = zs.length := ⟨_, rfl⟩
      have hcs := fun d k (hk : k < n) => cnt_succ zs d (hn ▸ hk)
      rw [← hn] at h0 h1 hz hh1 hh2 hcell ⊢
      have Hyes := Lib.hid hyes
      have Hh1 := Lib.hid hh1
      have Hh2 := Lib.hid hh2
      have Hc := Lib.hid hcell
      have Hs := Lib.hid hcs
      clear hyes hh1 hh2 hcell hcs ha hn hm
      go_enter Try.func6, Try.ntmps6
      go_wp2
      go_loop [4, 5, 6] (fun d _ _ => ∃ x : Int, -128 ≤ x ∧ x ≤ m ∧ d = .int .i64 x) (fun d _ _ => (128 - intOf d).toNat)
      case atStart => exact ⟨_, by omega, hm1, rfl⟩
      case round =>
        obtain ⟨x, hx1, hx2, rfl⟩ := hrel
        go_wp2
        go_loop [5, 6] (fun a i => ∃ k : Nat, k ≤ n ∧ i = .int .i64 k ∧ a = .int .i64 (cnt zs x k : Nat)) (fun _ i => n - (intOf i).toNat)
        case atStart => exact ⟨0, Nat.zero_le _, rfl, rfl⟩
        case round =>
          obtain ⟨k, hk, rfl, rfl⟩ := hrel
          by_cases hlt : k < n
          · have hck := Hc.out k hlt
            have hs := Lib.hid (Hs.out x k hlt)
            have hsk := hsm k
            have hcn := cnt_le zs x k
            obtain ⟨y, hy⟩ : ∃ y, y = zs.getD k 0 := ⟨_, rfl⟩
            rw [← hy] at hck hsk
            have Hy := Lib.hid hy
            obtain ⟨C, hC⟩ : ∃ C, C = cnt zs x k := ⟨_, rfl⟩
            rw [← hC] at hcn ⊢
            have HC := Lib.hid hC
            obtain ⟨hsk1, hsk2⟩ := hsk
            clear hy hC
            by_cases hyx : y ≤ x
            · go_wp2
              go_round
              case rel => exact ⟨k + 1, by omega, by go_num, by rw [hs.out, ← Hy.out, if_pos hyx, ← HC.out]; go_num⟩
              case measure => simp [intOf]; omega
            · go_wp2
              go_round
              case rel => exact ⟨k + 1, by omega, by go_num, by rw [hs.out, ← Hy.out, if_neg (by omega), ← HC.out]; go_num⟩
              case measure => simp [intOf]; omega
          · obtain rfl : k = n := by omega
            have hcn := cnt_le zs x k
            by_cases hxm : x < m
            · have hlow := Hh2.out x hxm
              obtain ⟨C, hC⟩ : ∃ C, C = cnt zs x k := ⟨_, rfl⟩
              rw [← hC] at hcn hlow ⊢
              clear hC
              go_wp2
              go_round
              case rel => exact ⟨x + 1, by omega, by omega, rfl⟩
              case measure => simp [intOf]; omega
            · obtain rfl : x = m := by omega
              have hhi := Hh1.out
              obtain ⟨C, hC⟩ : ∃ C, C = cnt zs x k := ⟨_, rfl⟩
              rw [← hC] at hcn hhi ⊢
              have hw : IntKind.i8.wrap x = x := IntWalk.i8_in _ (by omega)
              clear hC
              go_wp2
              go_ret2
              exact ⟨Hyes.out, rfl⟩
    · obtain ⟨n, hn⟩ : ∃ n, n = zs.length := ⟨_, rfl⟩
      rw [← hn] at h0 h1 Hno hz ⊢
      clear hn
      have hn1 : (4096 : Int) < n := by omega
      go_enter Try.func6, Try.ntmps6
      go_wp2
      go_ret2
      exact ⟨Hno.out (by omega), rfl⟩
  · have h00 : zs.length = 0 := by omega
    rw [h00] at Hno ⊢
    go_enter Try.func6, Try.ntmps6
    go_wp2
    go_ret2
    exact ⟨Hno.out (by omega), rfl⟩
end Go.Proofs.Ytgllkknleombjaa

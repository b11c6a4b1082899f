/- The laws' kept: what was lent is what it was. -/
import Derived.Test.YtoilhpmimcbniaaCrowB
namespace Go.Proofs.Ytoilhpmimcbniaa
open Go.RowKit

/-- What lent lays: each list with its mark behind it, and the last mark. -/
structure LentAt (w : World) (B : Nat) (ad : Addr) (xss : List (List Int)) : Prop where
  blk : ad.block < B
  rows : ∀ j, j < xss.length → ∃ a c', w.cell? (ad.add j) = some (.slice (some a) (row xss j).length c') ∧ (row xss j).length + 1 ≤ c' ∧ a.block < B ∧ ∀ k u, (ints (row xss j) ++ [.int .i64 987])[k]? = some u → w.cell? (a.add k) = some u
  last : ∃ g, w.cell? (ad.add xss.length) = some (.slice (some g) 1 1) ∧ g.block < B ∧ w.cell? g = some (.int .i64 986)

theorem LentAt.ll {w : World} {B : Nat} {ad : Addr} {xss : List (List Int)} (h : LentAt w B ad xss) : LL w B (some ad) xss := fun _ =>
  ⟨ad, rfl, h.blk, fun j hj => by
    obtain ⟨a, c', h1, _, h2, h3⟩ := h.rows j hj
    refine ⟨some a, c', h1, by simp [ints], fun hn => ⟨a, rfl, h2, fun k u hu => h3 k u ?_⟩⟩
    rw [List.getElem?_append_left (by have := (List.getElem?_eq_some_iff.1 hu).1; exact this)]
    exact hu⟩

theorem LentAt.keep {w w' : World} {B : Nat} {ad : Addr} {xss : List (List Int)} (h : LentAt w B ad xss) (hk : ∀ p : Addr, p.block < B → w'.cell? p = w.cell? p) : LentAt w' B ad xss := by
  refine ⟨h.blk, fun j hj => ?_, ?_⟩
  · obtain ⟨a, c', h1, h2, h3, h4⟩ := h.rows j hj
    exact ⟨a, c', (hk _ (by rw [block_of_add]; exact h.blk)).trans h1, h2, h3, fun k u hu => (hk _ (by rw [block_of_add]; exact h3)).trans (h4 k u hu)⟩
  · obtain ⟨g, h1, h2, h3⟩ := h.last
    exact ⟨g, (hk _ (by rw [block_of_add]; exact h.blk)).trans h1, h2, (hk _ h2).trans h3⟩

theorem addr_add_zero (a : Addr) : a.add 0 = a := by unfold Addr.add; simp

set_option maxHeartbeats 1000000 in
theorem kept_same (xss : List (List Int)) (hs : Short xss) (hs1 : xss.length + 1 ≤ 9223372036854775807) (hs2 : ∀ j, (row xss j).length + 1 ≤ 9223372036854775807) (ad : Addr) (A : Option Addr) (bA bX c d : Nat) (hc : xss.length + 1 ≤ c) (w : World) (hx : LentAt w bX ad xss) (ha : LL w bA A xss) :
    Calls Try.prog 15 #[.slice (some ad) xss.length c, .slice A xss.length d] w fun e w' => e = .returned (.bool true) ∧ ∃ n, w' = w.drewN n := by
  have hlists := fun w' (h1 : LL w' bX (some ad) xss) (h2 : LL w' bA A xss) => lists_same xss hs (some ad) A bX bA c d w' h1 h2
  have hxl := hx.ll
  obtain ⟨hl, hs⟩ := hs
  obtain ⟨n, hn⟩ : ∃ n, n = xss.length := ⟨_, rfl⟩
  have ha' := fun j (hj : j < n) => ha.at_ (hn ▸ hj)
  have hx' := fun j (hj : j < n) => hx.rows j (hn ▸ hj)
  obtain ⟨g, hg1, hg2, hg3⟩ := hx.last
  rw [← hn] at hl hc hg1 hlists hs1 ⊢
  clear hx hn
  have hg0 : g.add 0 = g := addr_add_zero g
  go_enter Try.func15, Try.ntmps15
  go_wp2_with (go_at_call 13; refine (hlists _ hxl ha).mono ?_; rintro e w' ⟨rfl, q, rfl⟩)
  clear hlists hxl ha
  go_loopw [6, 7] (fun i _ wr => ∃ k q : Nat, k ≤ n ∧ i = .int .i64 k ∧ wr = w.drewN q) (fun i _ _ => n - (intOf i).toNat)
  case atStart => exact ⟨0, _, Nat.zero_le _, rfl, rfl⟩
  case round =>
    obtain ⟨k, q, hk, rfl, rfl⟩ := hrel
    by_cases hlt : k < n
    · obtain ⟨ad, A', c', rfl, _, hy, hys⟩ := ha' k hlt
      obtain ⟨a, c2, h1, h2, h3, h4⟩ := hx' k hlt
      have hsk := hs2 k
      have h5 := h4 (row xss k).length (.int .i64 987) (by simp [ints])
      obtain ⟨m, hm⟩ : ∃ m, m = (row xss k).length := ⟨_, rfl⟩
      rw [← hm] at hy h1 h2 h5 hsk
      clear ha' hx' h4 hys hm
      go_wp2
      go_roundw
      case rel => exact ⟨k + 1, _, by omega, by go_num, rfl⟩
      case measure => simp [intOf]; omega
    · go_wp2
      go_ret
      exact ⟨rfl, _, rfl⟩
end Go.Proofs.Ytoilhpmimcbniaa

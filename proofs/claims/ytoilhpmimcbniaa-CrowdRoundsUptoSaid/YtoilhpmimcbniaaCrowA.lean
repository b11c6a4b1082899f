/- Contracts of the functions that only read: lists, May, may, the document's ready. -/
import Derived.Test.YtoilhpmimcbniaaBase
namespace Go.Proofs.Ytoilhpmimcbniaa
open Go.RowKit

def row (xss : List (List Int)) (j : Nat) : List Int := xss.getD j []

/-- A slice of slices of numbers, read below block B. -/
def LL (w : World) (B : Nat) (A : Option Addr) (xss : List (List Int)) : Prop :=
  0 < xss.length → ∃ ad, A = some ad ∧ ad.block < B ∧ ∀ j, j < xss.length → ∃ A' c', w.cell? (ad.add j) = some (.slice A' (row xss j).length c') ∧ Reads w B 1 A' (row xss j).length (ints (row xss j))

theorem LL.keep {w w' : World} {B : Nat} {A : Option Addr} {xss : List (List Int)} (h : LL w B A xss) (hk : ∀ p : Addr, p.block < B → w'.cell? p = w.cell? p) : LL w' B A xss := fun hn => by
  obtain ⟨ad, e, hb, hc⟩ := h hn
  refine ⟨ad, e, hb, fun j hj => ?_⟩
  obtain ⟨A', c', h1, h2⟩ := hc j hj
  exact ⟨A', c', (hk _ (by rw [block_of_add]; exact hb)).trans h1, h2.keep hk⟩

theorem LL.at_ {w : World} {B : Nat} {A : Option Addr} {xss : List (List Int)} (h : LL w B A xss) {j : Nat} (hj : j < xss.length) : ∃ ad A' c', A = some ad ∧ ad.block < B ∧ w.cell? (ad.add j) = some (.slice A' (row xss j).length c') ∧ Reads w B 1 A' (row xss j).length (ints (row xss j)) := by
  obtain ⟨ad, e, hb, hc⟩ := h (by omega)
  obtain ⟨A', c', h1, h2⟩ := hc j hj
  exact ⟨ad, A', c', e, hb, h1, h2⟩

theorem quiet_of2 {P : Program} {f : FuncId} {args : Array Value} {w : World} {q n : Nat} {v : Value}
    (h : Calls P f args (w.drewN (q + n)) fun e w' => e = .returned v ∧ ∃ m, w' = (w.drewN (q + n)).drewN m) : Calls P f args (w.drewN (q + n)) fun e w'' => e = .returned v ∧ ∃ m, w'' = w.drewN (q + m) :=
  h.mono fun _ _ ⟨he, m, hm⟩ => ⟨he, n + m, by rw [hm, World.drewN_drewN, Nat.add_assoc]⟩

/-- An equation that the walk's simp does not see. -/
def Same {α : Type} (a b : α) : Prop := a = b

/-- It returns a Boolean that tells whether p. -/
def Tells (e : Ending) (p : Prop) : Prop := ∃ b, e = .returned (.bool b) ∧ (b = true ↔ p)

def Short (xss : List (List Int)) : Prop := xss.length ≤ 9223372036854775807 ∧ ∀ j, (row xss j).length ≤ 9223372036854775807

set_option maxHeartbeats 400000 in
theorem lists_same (xss : List (List Int)) (hs : Short xss) (A B : Option Addr) (bA bB c d : Nat) (w : World) (ha : LL w bA A xss) (hb : LL w bB B xss) :
    Calls Try.prog 13 #[.slice A xss.length c, .slice B xss.length d] w fun e w' => e = .returned (.bool true) ∧ ∃ n, w' = w.drewN n := by
  obtain ⟨hl, hs⟩ := hs
  obtain ⟨n, hn⟩ : ∃ n, n = xss.length := ⟨_, rfl⟩
  have ha' := fun j (hj : j < n) => ha.at_ (hn ▸ hj)
  have hb' := fun j (hj : j < n) => hb.at_ (hn ▸ hj)
  rw [← hn] at hl ⊢
  clear ha hb
  go_enter Try.func13, Try.ntmps13
  go_wp2
  go_loopw [5] (fun i wr => ∃ k q : Nat, k ≤ n ∧ i = .int .i64 k ∧ wr = w.drewN q) (fun i _ => n - (intOf i).toNat)
  case atStart => exact ⟨0, 0, Nat.zero_le _, rfl, rfl⟩
  case round =>
    obtain ⟨k, q, hk, rfl, rfl⟩ := hrel
    by_cases hlt : k < n
    · obtain ⟨ad, A', c', rfl, _, hx, hxs⟩ := ha' k hlt
      obtain ⟨bd, B', d', rfl, _, hy, hys⟩ := hb' k hlt
      clear ha' hb'
      go_wp2
      go_quiet ((refine quiet_of2 (numbers_same (row xss k) (hs k) _ _ bA bB _ _ _ ?_ ?_); exact hxs; exact hys))
      go_wp2
      go_roundw
      case rel => exact ⟨k + 1, _, by omega, by go_num, rfl⟩
      case measure => simp [intOf]; omega
    · go_wp2
      go_ret
      exact ⟨rfl, q, rfl⟩

/-- May the tasks be? -/
def MayP (xss : List (List Int)) : Prop := xss.length ≤ 4096 ∧ ∀ i, i < xss.length → ∀ k, k < (row xss i).length → 0 ≤ (row xss i).getD k 0 ∧ (row xss i).getD k 0 < xss.length

set_option maxHeartbeats 1000000 in
theorem may_says (xss : List (List Int)) (hs : Short xss) (A : Option Addr) (bA c : Nat) (w : World) (ha : LL w bA A xss) :
    Calls Try.prog 37 #[.slice A xss.length c] w fun e w' => Tells e (MayP xss) ∧ ∃ n, w' = w.drewN n := by
  obtain ⟨hl, hs⟩ := hs
  obtain ⟨n, hn⟩ : ∃ n, n = xss.length := ⟨_, rfl⟩
  have ha' := fun j (hj : j < n) => ha.at_ (hn ▸ hj)
  unfold MayP
  rw [← hn] at hl ⊢
  clear ha hn
  go_enter Try.func37, Try.ntmps37
  by_cases hbig : 4096 < n
  · go_wp2
    go_ret
    exact ⟨⟨false, rfl, by simp; omega⟩, 0, rfl⟩
  go_wp2
  go_loopw [12] (fun i wr => ∃ k q : Nat, k ≤ n ∧ i = .int .i64 k ∧ wr = w.drewN q ∧ ∀ i, i < k → ∀ j, j < (row xss i).length → 0 ≤ (row xss i).getD j 0 ∧ (row xss i).getD j 0 < n) (fun i _ => n - (intOf i).toNat)
  case atStart => exact ⟨0, 0, Nat.zero_le _, rfl, rfl, fun _ h => by omega⟩
  case round =>
    obtain ⟨k, q, hk, rfl, rfl, hall⟩ := hrel
    by_cases hlt : k < n
    · obtain ⟨ad, A', c', rfl, _, hx, hxs⟩ := ha' k hlt
      have hsk := hs k
      obtain ⟨m, hm⟩ : ∃ m, m = (row xss k).length := ⟨_, rfl⟩
      rw [← hm] at hx hxs hsk
      replace hm : Same m (row xss k).length := hm
      clear ha'
      go_wp2
      go_loopw [18] (fun i wr => ∃ j : Nat, j ≤ m ∧ i = .int .i64 j ∧ wr = w.drewN q ∧ ∀ j', j' < j → 0 ≤ (row xss k).getD j' 0 ∧ (row xss k).getD j' 0 < n) (fun i _ => m - (intOf i).toNat)
      case atStart => exact ⟨0, Nat.zero_le _, rfl, rfl, fun _ h => by omega⟩
      case round =>
        obtain ⟨j, hj, rfl, rfl, hrow⟩ := hrel
        by_cases hlj : j < m
        · obtain ⟨bd, u, rfl, _, hy, hc⟩ := hxs.at_ hlj
          obtain rfl := ints_at hy
          clear hy
          obtain ⟨u, hu⟩ : ∃ u, u = (row xss k).getD j 0 := ⟨_, rfl⟩
          rw [← hu] at hc
          replace hu : Same u ((row xss k).getD j 0) := hu
          have hno : (u < 0 ∨ n ≤ u) → ((false = true) ↔ (n ≤ 4096 ∧ ∀ i, i < n → ∀ k, k < (row xss i).length → 0 ≤ (row xss i).getD k 0 ∧ (row xss i).getD k 0 < n)) := fun hb =>
            ⟨fun h => (by cases h), fun h => by
              have h1 := h.2 k hlt j (by unfold Same at hm; omega)
              unfold Same at hu
              rw [← hu] at h1
              omega⟩
          go_wp2
          · go_ret
            exact ⟨⟨false, rfl, hno (by omega)⟩, _, rfl⟩
          · go_roundw
            case rel => exact ⟨j + 1, by omega, by go_num, by first | rfl | trivial, fun i hi => by
              rcases Nat.lt_or_ge i j with h | h
              · exact hrow i h
              · obtain rfl : i = j := by omega
                unfold Same at hu; omega⟩
            case measure => simp [intOf]; omega
          · go_ret
            exact ⟨⟨false, rfl, hno (by omega)⟩, _, rfl⟩
        · go_wp2
          obtain rfl : j = m := by omega
          go_roundw
          case rel => exact ⟨k + 1, _, by omega, by go_num, rfl, fun i hi j hj => by
            rcases Nat.lt_or_ge i k with h | h
            · exact hall i h j hj
            · obtain rfl : i = k := by omega
              exact hrow j (by unfold Same at hm; omega)⟩
          case measure => simp [intOf]; omega
    · obtain rfl : k = n := by omega
      go_wp2
      go_ret
      exact ⟨⟨true, rfl, by simp; exact ⟨by omega, hall⟩⟩, _, rfl⟩
end Go.Proofs.Ytoilhpmimcbniaa

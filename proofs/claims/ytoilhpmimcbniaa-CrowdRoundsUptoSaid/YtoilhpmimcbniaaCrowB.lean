/- Contracts of the functions that only read: the document's May and ready, the laws' kept. -/
import Derived.Test.YtoilhpmimcbniaaCrowA
namespace Go.Proofs.Ytoilhpmimcbniaa
open Go.RowKit

set_option maxHeartbeats 1000000 in
theorem May_says (xss : List (List Int)) (hs : Short xss) (A : Option Addr) (bA c : Nat) (w : World) (ha : LL w bA A xss) :
    Calls Try.prog 18 #[.slice A xss.length c] w fun e w' => Tells e (MayP xss) ∧ ∃ n, w' = w.drewN n := by
  obtain ⟨hl, hs⟩ := hs
  obtain ⟨n, hn⟩ : ∃ n, n = xss.length := ⟨_, rfl⟩
  have ha' := fun j (hj : j < n) => ha.at_ (hn ▸ hj)
  unfold MayP
  rw [← hn] at hl ⊢
  clear ha hn
  go_enter Try.func18, Try.ntmps18
  by_cases hbig : 4096 < n
  · go_wp2
    go_ret
    exact ⟨⟨false, rfl, by simp; omega⟩, 0, rfl⟩
  go_wp2
  go_loopw [3, 4] (fun i _ wr => ∃ k q : Nat, k ≤ n ∧ i = .int .i64 k ∧ wr = w.drewN q ∧ ∀ i, i < k → ∀ j, j < (row xss i).length → 0 ≤ (row xss i).getD j 0 ∧ (row xss i).getD j 0 < n) (fun i _ _ => n - (intOf i).toNat)
  case atStart => exact ⟨0, 0, Nat.zero_le _, rfl, rfl, fun _ h => by omega⟩
  case round =>
    obtain ⟨k, q, hk, rfl, rfl, hall⟩ := hrel
    by_cases hlt : k < n
    · obtain ⟨ad, A', c', rfl, _, hx, hxs⟩ := ha' k hlt
      have hsk := hs k
      obtain ⟨m, hm⟩ : ∃ m, m = (row xss k).length := ⟨_, rfl⟩
      rw [← hm] at hx hxs hsk
      replace hm : Same m (row xss k).length := hm
      clear ha'
      go_wp2
      go_loopw [4] (fun i wr => ∃ j : Nat, j ≤ m ∧ i = .int .i64 j ∧ wr = w.drewN q ∧ ∀ j', j' < j → 0 ≤ (row xss k).getD j' 0 ∧ (row xss k).getD j' 0 < n) (fun i _ => m - (intOf i).toNat)
      case atStart => exact ⟨0, Nat.zero_le _, rfl, rfl, fun _ h => by omega⟩
      case round =>
        obtain ⟨j, hj, rfl, rfl, hrow⟩ := hrel
        by_cases hlj : j < m
        · obtain ⟨bd, u, rfl, _, hy, hc⟩ := hxs.at_ hlj
          obtain rfl := ints_at hy
          clear hy
          obtain ⟨u, hu⟩ : ∃ u, u = (row xss k).getD j 0 := ⟨_, rfl⟩
          rw [← hu] at hc
          replace hu : Same u ((row xss k).getD j 0) := hu
          have hno : (u < 0 ∨ n ≤ u) → ((false = true) ↔ (n ≤ 4096 ∧ ∀ i, i < n → ∀ k, k < (row xss i).length → 0 ≤ (row xss i).getD k 0 ∧ (row xss i).getD k 0 < n)) := fun hb =>
            ⟨fun h => (by cases h), fun h => by
              have h1 := h.2 k hlt j (by unfold Same at hm; omega)
              unfold Same at hu
              rw [← hu] at h1
              omega⟩
          go_wp2
          · go_ret
            exact ⟨⟨false, rfl, hno (by omega)⟩, _, rfl⟩
          · go_roundw
            case rel => exact ⟨j + 1, by omega, by go_num, by first | rfl | trivial, fun i hi => by
              rcases Nat.lt_or_ge i j with h | h
              · exact hrow i h
              · obtain rfl : i = j := by omega
                unfold Same at hu; omega⟩
            case measure => simp [intOf]; omega
          · go_ret
            exact ⟨⟨false, rfl, hno (by omega)⟩, _, rfl⟩
        · go_wp2
          obtain rfl : j = m := by omega
          go_roundw
          case rel => exact ⟨k + 1, _, by omega, by go_num, rfl, fun i hi j hj => by
            rcases Nat.lt_or_ge i k with h | h
            · exact hall i h j hj
            · obtain rfl : i = k := by omega
              exact hrow j (by unfold Same at hm; omega)⟩
          case measure => simp [intOf]; omega
    · obtain rfl : k = n := by omega
      go_wp2
      go_ret
      exact ⟨⟨true, rfl, by simp; exact ⟨by omega, hall⟩⟩, _, rfl⟩

/-- The bytes of a list, as cells. -/
def bytes (xs : List Int) : List Value := xs.map (Value.int .u8)

theorem bytes_at {xs : List Int} {k : Nat} {u : Value} (h : (bytes xs)[k]? = some u) : u = .int .u8 (xs.getD k 0) := by
  unfold bytes at h
  rw [List.getElem?_map] at h
  cases hx : xs[k]? with
  | none => simp [hx] at h
  | some x => simp [hx] at h; simp [List.getD, hx, ← h]

set_option maxHeartbeats 400000 in
theorem ready_says (xs st : List Int) (hl : xs.length ≤ 9223372036854775807) (hin : ∀ k, k < xs.length → 0 ≤ xs.getD k 0 ∧ xs.getD k 0 < st.length) (A S : Option Addr) (bA bS c d : Nat) (w : World) (ha : Reads w bA 1 A xs.length (ints xs)) (hS : Reads w bS 1 S st.length (bytes st)) :
    Calls Try.prog 36 #[.slice A xs.length c, .slice S st.length d] w fun e w' => Tells e (∀ k, k < xs.length → st.getD (xs.getD k 0).toNat 0 = 1) ∧ ∃ n, w' = w.drewN n := by
  obtain ⟨n, hn⟩ : ∃ n, n = xs.length := ⟨_, rfl⟩
  rw [← hn] at ha hl hin ⊢
  clear hn
  have hread := fun k (hk : k < n) => (ha.at_ hk)
  have hst := fun j (hj : j < st.length) => (hS.at_ hj)
  clear ha hS
  go_enter Try.func36, Try.ntmps36
  go_wp2
  go_loopw [5] (fun i wr => ∃ k q : Nat, k ≤ n ∧ i = .int .i64 k ∧ wr = w.drewN q ∧ ∀ j, j < k → st.getD (xs.getD j 0).toNat 0 = 1) (fun i _ => n - (intOf i).toNat)
  case atStart => exact ⟨0, 0, Nat.zero_le _, rfl, rfl, fun _ h => by omega⟩
  case round =>
    obtain ⟨k, q, hk, rfl, rfl, hall⟩ := hrel
    by_cases hlt : k < n
    · obtain ⟨ad, u, rfl, _, hx, hc⟩ := hread k hlt
      obtain rfl := ints_at hx
      obtain ⟨h0, h1⟩ := hin k hlt
      obtain ⟨u, hu⟩ : ∃ u, u = xs.getD k 0 := ⟨_, rfl⟩
      rw [← hu] at hc h0 h1
      replace hu : Same u (xs.getD k 0) := hu
      obtain ⟨j, rfl⟩ := Int.eq_ofNat_of_zero_le h0
      obtain ⟨bd, v, rfl, _, hy, hd⟩ := hst j (by omega)
      obtain rfl := bytes_at hy
      obtain ⟨v, hv⟩ : ∃ v, v = st.getD j 0 := ⟨_, rfl⟩
      rw [← hv] at hd
      replace hv : Same v (st.getD j 0) := hv
      have hjl : j < st.length := by omega
      have hkey : st.getD (xs.getD k 0).toNat 0 = v := by unfold Same at hu hv; rw [← hu, hv]; rfl
      replace hkey : Same (st.getD (xs.getD k 0).toNat 0) v := hkey
      clear hx hy hread hst
      go_wp2
      · rename_i hne
        have hne' : ¬ v = 1 := by simpa using hne
        go_ret
        exact ⟨⟨false, rfl, ⟨fun h => (by cases h), fun h => by
          have := h k hlt
          unfold Same at hkey; omega⟩⟩, _, rfl⟩
      · rename_i hne
        have hne' : v = 1 := by simpa using hne
        go_roundw
        case rel => exact ⟨k + 1, _, by omega, by go_num, by first | rfl | trivial, fun i hi => by
          rcases Nat.lt_or_ge i k with h | h
          · exact hall i h
          · obtain rfl : i = k := by omega
            unfold Same at hkey; omega⟩
        case measure => simp [intOf]; omega
    · obtain rfl : k = n := by omega
      go_wp2
      go_ret
      exact ⟨⟨true, rfl, ⟨fun _ => hall, fun _ => rfl⟩⟩, _, rfl⟩
end Go.Proofs.Ytoilhpmimcbniaa

/- The laws' lent. -/
import Derived.Test.YtoilhpmimcbniaaCrowD
import Derived.Deep.Cut
namespace Go.Proofs.Ytoilhpmimcbniaa
open Go.RowKit

/-- The lists that have been laid so far, each with its mark behind it. -/
def Laid (B0 : Nat) (xss : List (List Int)) (wr : World) (v : Value) (k : Nat) : Prop :=
  ∃ vs : List Value, wr.ownsRow B0 23 1 v k vs ∧ ∀ j, j < k → ∃ g c', vs[j]? = some (.slice (some ⟨g, 0, none⟩) (row xss j).length c') ∧ (row xss j).length + 1 ≤ c' ∧ v.ownBlock ≠ some g ∧
    wr.ownsRow B0 3 1 (.slice (some ⟨g, 0, none⟩) ((row xss j).length + 1) c') ((row xss j).length + 1) (ints (row xss j) ++ [.int .i64 987])

/-- One list more. -/
theorem Laid.push {B0 : Nat} {xss : List (List Int)} {w2 w3 : World} {v v3 : Value} {k g cap : Nat} {o : Obj} {vs : List Value} (hvs : w2.ownsRow B0 23 1 v k vs)
    (hrows : ∀ j, j < k → ∃ g c', vs[j]? = some (.slice (some ⟨g, 0, none⟩) (row xss j).length c') ∧ (row xss j).length + 1 ≤ c' ∧ v.ownBlock ≠ some g ∧
      w2.ownsRow B0 3 1 (.slice (some ⟨g, 0, none⟩) ((row xss j).length + 1) c') ((row xss j).length + 1) (ints (row xss j) ++ [.int .i64 987]))
    (hv2 : w2.ownsRow B0 3 1 (.slice (some ⟨g, 0, none⟩) ((row xss k).length + 1) cap) ((row xss k).length + 1) (ints (row xss k) ++ [.int .i64 987])) (hcap : (row xss k).length + 1 ≤ cap) (hgv : v.ownBlock ≠ some g)
    (hv3 : w3.ownsRow B0 23 1 v3 (k + 1) (vs ++ [.slice (some ⟨g, 0, none⟩) (row xss k).length cap])) (hg3 : (w2.alloc o).grownBy w3 v.ownBlock) (hb3 : v3.ownBlock = v.ownBlock ∨ v3.ownBlock = some (w2.alloc o).heap.size) : Laid B0 xss w3 v3 (k + 1) := by
  have hlen : vs.length = k := by simpa using hvs.1
  have go : ∀ g' n' c' xs, w2.ownsRow B0 3 1 (.slice (some ⟨g', 0, none⟩) n' c') n' xs → v.ownBlock ≠ some g' → v3.ownBlock ≠ some g' ∧ w3.ownsRow B0 3 1 (.slice (some ⟨g', 0, none⟩) n' c') n' xs := fun g' n' c' xs h hne =>
    ⟨by rcases hb3 with e | e <;> rw [e]
        · exact hne
        · intro e'; cases e'; have := (h.lt _ rfl).2; simp at this; omega, (h.alloc o).kept hg3 (.inr fun e => hne e.symm)⟩
  refine ⟨_, hv3, fun j hj => ?_⟩
  rcases Nat.lt_or_ge j k with h | h
  · obtain ⟨g', c', e1, e2, e3, e4⟩ := hrows j h
    obtain ⟨h1, h2⟩ := go _ _ _ _ e4 e3
    exact ⟨g', c', by rw [List.getElem?_append_left (by omega)]; exact e1, e2, h1, h2⟩
  · obtain rfl : j = k := by omega
    obtain ⟨h1, h2⟩ := go _ _ _ _ hv2 hgv
    exact ⟨g, cap, by rw [List.getElem?_append_right (by omega), hlen]; simp, hcap, h1, h2⟩

/-- All lists, and the last mark. -/
theorem Laid.done {B0 : Nat} {xss : List (List Int)} {w1 w3 : World} {v : Value} {g h cap : Nat} {vs : List Value} {o : Obj} (hvs : w1.ownsRow B0 23 1 v xss.length vs)
    (hrows : ∀ j, j < xss.length → ∃ g c', vs[j]? = some (.slice (some ⟨g, 0, none⟩) (row xss j).length c') ∧ (row xss j).length + 1 ≤ c' ∧ v.ownBlock ≠ some g ∧
      w1.ownsRow B0 3 1 (.slice (some ⟨g, 0, none⟩) ((row xss j).length + 1) c') ((row xss j).length + 1) (ints (row xss j) ++ [.int .i64 987]))
    (hh : w1.ownsRow B0 3 1 (.slice (some ⟨h, 0, none⟩) 1 1) 1 [.int .i64 986]) (hhv : v.ownBlock ≠ some h) (hg3 : (w1.alloc o).grownBy w3 v.ownBlock)
    (hv3 : w3.ownsRow B0 23 1 (.slice (some ⟨g, 0, none⟩) (xss.length + 1) cap) (xss.length + 1) (vs ++ [.slice (some ⟨h, 0, none⟩) 1 1])) : LentAt w3 w3.heap.size ⟨g, 0, none⟩ xss := by
  have hlen : vs.length = xss.length := by simpa using hvs.1
  have hc := hv3.cells rfl
  refine ⟨(hv3.lt g rfl).2, fun j hj => ?_, ?_⟩
  · obtain ⟨g', c', e1, e2, e3, e4⟩ := hrows j hj
    have h4 := (e4.alloc o).kept hg3 (.inr fun e => e3 e.symm)
    exact ⟨⟨g', 0, none⟩, c', hc j _ (by rw [List.getElem?_append_left (by omega)]; exact e1), e2, (h4.lt _ rfl).2, h4.cells rfl⟩
  · have h4 := (hh.alloc o).kept hg3 (.inr fun e => hhv e.symm)
    refine ⟨⟨h, 0, none⟩, hc xss.length _ (by rw [List.getElem?_append_right (by omega), hlen]; simp), (h4.lt _ rfl).2, ?_⟩
    have := h4.cells rfl 0 (.int .i64 986) rfl
    rwa [addr_add_zero] at this

theorem Laid.other {B0 : Nat} {xss : List (List Int)} {wr w' : World} {v : Value} {k : Nat} {r : Option Nat} (h : Laid B0 xss wr v k) (hg : wr.grownBy w' r) (hr : ∀ g, r = some g → wr.heap.size ≤ g) : Laid B0 xss w' v k := by
  obtain ⟨vs, h1, h2⟩ := h
  have key : ∀ g, g < wr.heap.size → some g ≠ r := fun g hg e => by have := hr g e.symm; omega
  refine ⟨vs, h1.kept hg ?_, fun j hj => ?_⟩
  · cases hv : v.ownBlock with
    | none => exact .inl rfl
    | some g => exact .inr (key g (h1.lt g hv).2)
  · obtain ⟨g, c', e1, e2, e3, e4⟩ := h2 j hj
    exact ⟨g, c', e1, e2, e3, e4.kept hg (.inr (key g (e4.lt g rfl).2))⟩

set_option maxHeartbeats 1000000 in
theorem lent_lays (xss : List (List Int)) (hl : xss.length ≤ 1048576) (hs : ∀ j, (row xss j).length ≤ 1048576) (A : Option Addr) (bA c : Nat) (w : World) (hB : bA ≤ w.heap.size) (ha : LL w bA A xss) :
    Calls Try.prog 10 #[.slice A xss.length c] w fun e w' => w.grownBy w' none ∧ ∃ g cap, e = .returned (.slice (some ⟨g, 0, none⟩) xss.length cap) ∧ xss.length + 1 ≤ cap ∧ w.heap.size ≤ g ∧ LentAt w' w'.heap.size ⟨g, 0, none⟩ xss := by
  obtain ⟨i3, hi3, hz3, hs3, hb3⟩ := info3
  obtain ⟨i23, hi23, hz23, hs23, hb23⟩ := info23
  obtain ⟨n, hn⟩ : ∃ n, n = xss.length := ⟨_, rfl⟩
  have ha' := fun j (hj : j < n) => ha.at_ (hn ▸ hj)
  obtain ⟨B0, hB0⟩ : ∃ B0, B0 = w.heap.size := ⟨_, rfl⟩
  rw [← hn] at hl ⊢
  rw [← hB0] at hB ⊢
  replace hn : Same n xss.length := hn
  replace hB0 : Same B0 w.heap.size := hB0
  clear ha
  go_enter Try.func10, Try.ntmps10
  go_wp2
  go_loopw [3, 4, 5, 6] (fun v i _ _ wr => ∃ k : Nat, k ≤ n ∧ i = .int .i64 k ∧ w.grownBy wr none ∧ Laid B0 xss wr v k) (fun _ i _ _ _ => n - (intOf i).toNat)
  case atStart => exact ⟨0, Nat.zero_le _, rfl, World.grownBy.refl w _, [], World.ownsRow_nil _ _ _ _, fun _ h => by omega⟩
  case round =>
    obtain ⟨k, hk, rfl, hgw, hlaid⟩ := hrel
    by_cases hlt : k < n
    · obtain ⟨ad, A', c', rfl, hbl, hx, hxs⟩ := ha' k hlt
      have hkeep := keep_of_grown hgw (B := bA) (by unfold Same at hB0; omega) (by simp)
      have hx := (hkeep _ (by rw [block_of_add]; exact hbl)).trans hx
      have hxs := hxs.keep hkeep
      have hsk := hs k
      obtain ⟨m, hm⟩ : ∃ m, m = (row xss k).length := ⟨_, rfl⟩
      rw [← hm] at hx hxs hsk
      replace hm : Same m (row xss k).length := hm
      clear ha' hkeep
      have hB1 : B0 ≤ wr.heap.size := by have := hgw.size; unfold Same at hB0; omega
      have hl0 := World.ownsRow_lit (base := B0) (size := 1) (e := 3) wr #[] 0 hB1 (by decide) rfl
      have hx0 : Reads (wr.alloc (.cells #[] 3)) bA 1 A' m (ints (row xss k)) := hxs.keep (keep_of_grown (World.grownBy_alloc wr _ none) (by omega) (by simp))
      have hx1 : (wr.alloc (.cells #[] 3)).cell? (ad.add k) = some (.slice A' m c') := (World.grownBy_alloc wr _ none).cell hx (by simp)
      go_wp2_with (first
        | (at_builtin; refine wpList_append_any _ rfl (.tmp 18) (.tmp 22) 23 rfl B0 3 i3 _ 1 8 under23 hi3 hz3 hs3 hb3 rfl (by decide) _ 0 [] rfl hl0 A' m c' bA (ints (row xss k)) rfl hx0 (ints_one _) (by unfold maxLen; omega) (by omega) (by simp; omega) ?_; intro v1 w1 hv1 hg1 hb1)
        | (at_builtin; refine wpList_append_any _ rfl (.tmp 23) (.tmp 24) 23 rfl B0 3 i3 _ 1 8 under23 hi3 hz3 hs3 hb3 rfl (by decide) _ _ _ rfl (hv1.alloc _) _ 1 1 _ [.int .i64 987] rfl (lit_reads _ _ _) (by simp [Value.oneCell']) (by unfold maxLen; omega) (by omega) (by have := hg1.size; simp at this ⊢; omega) ?_; intro v2 w2 hv2 hg2 hb2; rw [Nat.zero_add, List.nil_append] at hv2; obtain ⟨g, cap, rfl, hgb, hglt, hgc, hgm⟩ := owns_form hv2 (Nat.succ_pos _); have hmc : m ≤ cap := Nat.le_of_succ_le hgc; have hall := grown3 hg1 hb1 hg2; obtain ⟨vs, hvs, hrows⟩ := hlaid.other hall (by simp))
        | (at_builtin; go_loud (refine wpList_append_any _ rfl (.tmp 26) (.tmp 30) 22 rfl B0 23 i23 _ 1 24 under22 hi23 hz23 hs23 hb23 rfl (by decide) _ _ _ rfl (hvs.alloc _) _ 1 1 _ [.slice (some ⟨g, 0, none⟩) m cap] rfl (lit_reads _ _ _) (by simp [Value.oneCell']) (by unfold maxLen; omega) (by omega) (by have := hall.size; simp; omega) ?_); intro v3 w3 hv3 hg3 hb3))
      go_roundw
      case rel =>
        have hgwr : wr.heap.size ≤ g := by
          rcases hb2 with e | e
          · have e : some g = v1.ownBlock := e
            rcases hb1 with e' | e' <;> rw [e'] at e <;> cases e <;> simp
          · cases e; have := hg1.size; simp at this ⊢; omega
        have hB2 : w.heap.size = B0 := by unfold Same at hB0; exact hB0.symm
        refine ⟨k + 1, by omega, by go_num, ((hgw.andThen hall (by simp)).andThen (World.grownBy_alloc w2 _ none) (by simp)).andThen hg3 (fun j hj => .inl (by rw [hB2]; exact (hvs.lt j hj).1)), ?_⟩
        unfold Same at hm
        subst hm
        refine Laid.push hvs hrows hv2 hgc ?_ hv3 hg3 hb3
        intro e
        obtain ⟨vs', hvs', _⟩ := hlaid
        have := (hvs'.lt g e).2
        omega
      case measure => simp [intOf]; omega
    · obtain rfl : k = n := by omega
      obtain ⟨vs, hvs, hrows⟩ := hlaid
      have hB1 : B0 ≤ wr.heap.size := by have := hgw.size; unfold Same at hB0; omega
      go_wp2_with (at_builtin; go_loud (refine wpList_append_any _ rfl (.tmp 32) (.tmp 34) 22 rfl B0 23 i23 _ 1 24 under22 hi23 hz23 hs23 hb23 rfl (by decide) _ _ _ rfl ((hvs.alloc _).alloc _) _ 1 1 _ [.slice (some ⟨wr.heap.size, 0, none⟩) 1 1] rfl (lit_reads' _ _ _ _ (by simp)) (by simp [Value.oneCell']) (by unfold maxLen; omega) (by omega) (by simp; omega) ?_); intro v3 w3 hv3 hg3 hb3; obtain ⟨g, cap, rfl, hgb, hglt, hgc, hgm⟩ := owns_form hv3 (Nat.succ_pos _); have hmc : k ≤ cap := Nat.le_of_succ_le hgc)
      go_ret
      have hB2 : w.heap.size = B0 := by unfold Same at hB0; exact hB0.symm
      have hno : u3.ownBlock ≠ some wr.heap.size := fun e => by have := (hvs.lt _ e).2; omega
      refine ⟨((hgw.andThen (World.grownBy_alloc wr _ none) (by simp)).andThen (World.grownBy_alloc _ _ none) (by simp)).andThen hg3 (fun j hj => .inl (by rw [hB2]; exact (hvs.lt j hj).1)), g, cap, rfl, hgc, hgb, ?_⟩
      unfold Same at hn
      subst hn
      exact Laid.done (hvs.alloc _) (fun j hj => by
        obtain ⟨g, c', e1, e2, e3, e4⟩ := hrows j hj
        exact ⟨g, c', e1, e2, e3, e4.alloc _⟩) (World.ownsRow_lit (base := B0) (size := 1) (e := 3) wr #[.int .i64 986] 1 hB1 (by decide) rfl) hno hg3 hv3
end Go.Proofs.Ytoilhpmimcbniaa

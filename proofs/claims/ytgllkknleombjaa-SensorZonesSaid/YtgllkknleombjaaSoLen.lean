/- The sort of int8 in Go's library (Len): the guide's walk at int, turned to this dump and this kind by wip/tools/so.py. -/
import Derived.Test.YtgllkknleombjaaSoLen64
namespace Go.Proofs.Ytgllkknleombjaa

theorem so_bits_Len (x : Int) (w : World) (h0 : 0 ≤ x) (h1 : x ≤ 18446744073709551615) :
    Calls Try.prog 15 #[.int .u64 x] w fun e w' => e = .returned (.int .i64 (Lib.bitLen x.toNat)) ∧ w' = w := by
  go_enter Try.func15, Try.ntmps15
  go_wp2_with (go_at_call 26; refine (so_bits_Len64 x _ h0 h1).mono ?_; rintro e w' ⟨rfl, rfl⟩)
  go_ret
  exact ⟨rfl, rfl⟩

end Go.Proofs.Ytgllkknleombjaa

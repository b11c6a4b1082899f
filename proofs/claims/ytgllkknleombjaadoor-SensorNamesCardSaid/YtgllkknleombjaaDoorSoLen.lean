/- The sort of int8 in Go's library (Len): the guide's walk at int, turned to this dump and this kind by wip/tools/so.py. -/
import Derived.Test.YtgllkknleombjaaDoorSoLen64
namespace Go.Proofs.YtgllkknleombjaaDoor

theorem so_bits_Len (x : Int) (w : World) (h0 : 0 ≤ x) (h1 : x ≤ 18446744073709551615) :
    Calls Tryd.prog 19 #[.int .u64 x] w fun e w' => e = .returned (.int .i64 (Lib.bitLen x.toNat)) ∧ w' = w := by
  go_enter Tryd.func19, Tryd.ntmps19
  go_wp2_with (go_at_call 30; refine (so_bits_Len64 x _ h0 h1).mono ?_; rintro e w' ⟨rfl, rfl⟩)
  go_ret
  exact ⟨rfl, rfl⟩

end Go.Proofs.YtgllkknleombjaaDoor

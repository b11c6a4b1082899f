/- The sort of int8 in Go's library (Walk0): the guide's walk at int, turned to this dump and this kind by wip/tools/so.py. -/
import Derived.Test.YtgllkknleombjaaRows
import Derived.Sort.Walk0
namespace Go.Proofs.Ytgllkknleombjaa
abbrev encI : Int → Value := fun x => Value.int .i8 x

set_option maxHeartbeats 1000000 in
theorem so_cmp_isNaN (x : Int) (w : World) : Calls Try.prog 32 #[.int .i8 x] w fun e w' => e = .returned (.bool false) ∧ w' = w := by
  go_enter Try.func32, Try.ntmps32
  go_wp2
  go_ret
  exact ⟨by simp, rfl⟩


set_option maxHeartbeats 1000000 in
theorem so_cmp_Less (x y : Int) (w : World) : Calls Try.prog 22 #[.int .i8 x, .int .i8 y] w fun e w' => e = .returned (.bool (Sort.ltInt x y)) ∧ w' = w := by
  go_enter Try.func22, Try.ntmps22
  go_wp2_with (go_at_call 32; refine (so_cmp_isNaN _ _).mono ?_; rintro e w' ⟨rfl, rfl⟩)
  go_ret
  exact ⟨rfl, rfl⟩

end Go.Proofs.Ytgllkknleombjaa

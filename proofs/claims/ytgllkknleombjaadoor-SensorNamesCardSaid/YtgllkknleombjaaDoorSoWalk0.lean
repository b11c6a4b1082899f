/- The sort of int8 in Go's library (Walk0): the guide's walk at int, turned to this dump and this kind by wip/tools/so.py. -/
import Derived.Test.YtgllkknleombjaaDoorRows
import Derived.Sort.Walk0
namespace Go.Proofs.YtgllkknleombjaaDoor
abbrev encI : Int → Value := fun x => Value.int .i8 x

set_option maxHeartbeats 1000000 in
theorem so_cmp_isNaN (x : Int) (w : World) : Calls Tryd.prog 36 #[.int .i8 x] w fun e w' => e = .returned (.bool false) ∧ w' = w := by
  go_enter Tryd.func36, Tryd.ntmps36
  go_wp2
  go_ret
  exact ⟨by simp, rfl⟩


set_option maxHeartbeats 1000000 in
theorem so_cmp_Less (x y : Int) (w : World) : Calls Tryd.prog 26 #[.int .i8 x, .int .i8 y] w fun e w' => e = .returned (.bool (Sort.ltInt x y)) ∧ w' = w := by
  go_enter Tryd.func26, Tryd.ntmps26
  go_wp2_with (go_at_call 36; refine (so_cmp_isNaN _ _).mono ?_; rintro e w' ⟨rfl, rfl⟩)
  go_ret
  exact ⟨rfl, rfl⟩

end Go.Proofs.YtgllkknleombjaaDoor

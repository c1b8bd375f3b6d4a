/- Small words for the ends of walks. -/
import Derived.Test.YtooiiihaijpbaaaRx10
namespace Go.Rx
abbrev I (n : Int) : AV := sc (.int .i64 n)
abbrev Bl (b : Bool) : AV := sc (.bool b)
abbrev Sx (s : ByteArray) : AV := sc (.string s)
abbrev pI (n : Int) : PV := .sc (.int .i64 n)
abbrev pB (b : Bool) : PV := .sc (.bool b)
abbrev pS (s : ByteArray) : PV := .sc (.string s)
theorem ret1 {x y : AV} (h : x = y) : ∃ zs, Fa WkA [x] zs ∧ pack zs = some y := ⟨_, wk_refl _, by rw [← h]; rfl⟩
theorem retB {x y : Bool} (h : x = y) : ∃ zs, Fa WkA [Bl x] zs ∧ pack zs = some (Bl y) := ret1 (by rw [h])
theorem retI {x y : Int} (h : x = y) : ∃ zs, Fa WkA [I x] zs ∧ pack zs = some (I y) := ret1 (by rw [h])
end Go.Rx

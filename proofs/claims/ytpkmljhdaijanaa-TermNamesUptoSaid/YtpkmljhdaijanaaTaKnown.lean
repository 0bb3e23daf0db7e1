/- The rows of the chapter's examples, reckoned. -/
import Derived.Test.YtpkmljhdaijanaaTaBase
open Go Go.Abs
namespace Go.Abs
instance fnis14 : FnIs CC 14 := ⟨rfl, fun _ => rfl⟩
theorem ret14 : Ret CC 14 [] (.bool true) := Ret.reckon (n := 60) (by kernel_rfl)
end Go.Abs

/- What a connection sends goes out: conn.Post. -/
import Derived.Test.YtnmpafcflfjhgaaGreatAsk
import Derived.Test.YtnmpafcflfjhgaaGreatStep
namespace Go.Proofs.YtnmpafcflfjhgaaGreat
open Go.RowKit
set_option maxHeartbeats 1000000 in
set_option maxRecDepth 10000 in
theorem connPost_any (W w : World) (x : Nat) (cs : Array Value) (P : Option Addr) (n c : Nat) (R : Hh) (hp : Hp W w ((x, .cells cs 146 (0, 0)) :: R)) (h49 : cs[49]? = some (.slice P n c)) :
    Calls Tryz.prog 70 #[.pointer (some ⟨x, 0, none⟩)] w fun e w' => e = .returned (.slice P n c) ∧ Hp W w' ((x, .cells (cs.setIfInBounds 49 (.slice none 0 0)) 146 (0, 0)) :: R) := by
  have hx0 : w.cell? ⟨x, 49, none⟩ = some (.slice P n c) := by rw [hp.head.cell, h49]
  have hxf := hp.head.frozen 49
  have hxl := hp.head.lt
  have HP := Lib.hid (hp.set_ 49 (.slice none 0 0))
  clear hp
  go_enter Tryz.func70, Tryz.ntmps70
  go_wp2
  go_ret
  exact ⟨rfl, HP.out⟩
end Go.Proofs.YtnmpafcflfjhgaaGreat

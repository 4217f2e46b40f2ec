/- The chapter's example: broughamlaw23.alive answers true. -/
import Derived.Test.YtnmpafcflfjhgaaGreatHost3
namespace Go.Proofs.YtnmpafcflfjhgaaGreat
open Go.RowKit

def usual : Cfg := ⟨2, 2, 3, 3, 64, 16, 4, 3, 8, 200, 20, 3, 1, 8, 1⟩
theorem usual_right : usual.right = true := by decide
theorem usual_c (w : World) : Calls Tryz.prog 22 #[] w fun e w' => e = .returned (.agg usual.cells) ∧ Below w.heap.size w w' := usual_any w

set_option maxHeartbeats 2000000 in
set_option maxRecDepth 10000 in
theorem alive_any (w : World) : Calls Tryz.prog 9 #[] w fun e w' => e = .returned (.bool true) ∧ Below w.heap.size w w' := by
  go_enter Tryz.func9, Tryz.ntmps9
  go_wp2_with (first
    | ((with_reducible refine (usual_c _).mono ?_); rintro e w1 ⟨rfl, hb⟩)
    | ((with_reducible refine (new_ok ((Hp.refl w).under (by assumption)) usual 1 0 usual_right).mono ?_); rintro e w2 ⟨g, m, rfl, hp⟩)
    | (go_at_call 15; (refine (listen_ok (P := []) (H := []) (R := [mapH m #[] 0]) hp (SlH.nil_ _ _) (fun p h => by cases h) 80 (by decide) rfl (show (0 : Int) < 2 by decide) (show 0 ≤ 1000 by decide)).mono ?_); (rintro e w3 ⟨rfl, q, v', H', hs3, hp3⟩; (
      have hq : PortsIn [(q, 80)] [portH q 80 (.slice none 0 0) (.slice none 0 0), mapH m #[] 0] := fun p h => ⟨.slice none 0 0, .slice none 0 0, by rw [List.mem_singleton.1 h]; simp⟩
      have hf : Hid (findPort [(q, 80)] 80 = some q) := by simp [findPort, Hid])))
    | (go_at_call 15; (refine (listen_taken (P := [(q, 80)]) (R := [portH q 80 (.slice none 0 0) (.slice none 0 0), mapH m #[] 0]) hp3 hs3 hq 80 rfl q hf.out).mono ?_; rintro e w4 ⟨rfl, rfl⟩))
    | (go_at_call 23; (refine (accept_block (P := [(q, 80)]) (R := [portH q 80 (.slice none 0 0) (.slice none 0 0), mapH m #[] 0]) hp3 hs3 hq 80 q hf.out (.slice none 0 0) (.head _)).mono ?_); rintro e w4 ⟨rfl, rfl⟩)
    | (go_at_call 10; (refine (connect_port (P := [(q, 80)]) (R := [portH q 80 (.slice none 0 0) (.slice none 0 0), mapH m #[] 0]) hp3 hs3 hq 80 5 0 rfl rfl q hf.out).mono ?_); rintro e w4 ⟨rfl, rfl⟩)
    | (go_at_call 16; (refine (deliver_bad hp3 0 (.slice none 0 0) 70 (by decide) (parse_nil _) (Int.le_refl 0) (show (0 : Int) < 9223372036854775807 by decide)).mono ?_); rintro e w5 ⟨rfl, hp5⟩; (have hc5 : w5.cell? ⟨g, 6, none⟩ = some (.int .i64 1) := hp5.head.cell 6)))
  go_ret
  exact ⟨rfl, hp5.below⟩
end Go.Proofs.YtnmpafcflfjhgaaGreat

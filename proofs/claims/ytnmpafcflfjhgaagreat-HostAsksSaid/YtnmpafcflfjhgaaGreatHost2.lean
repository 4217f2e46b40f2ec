/- The host's ports: Listen, where there is room; Accept, where nobody waits; host.New. -/
import Derived.Test.YtnmpafcflfjhgaaGreatHost
namespace Go.Proofs.YtnmpafcflfjhgaaGreat
open Go.RowKit

set_option maxHeartbeats 1000000 in
set_option maxRecDepth 10000 in
theorem listen_ok {W w : World} {g : Nat} {h : HostC} {P : List (Nat × Int)} {H R : List (Nat × Obj)} (hp : Hp W w (hostH g h :: (H ++ R))) (hs : SlH 78 1 h.ports P.length (P.map fun p => ptr p.1) H) (hP : PortsIn P R) (at_ : Int)
    (hb : win at_ 1 65535 = true) (hq : findPort P at_ = none) (hroom : (P.length : Int) < h.set.ports) (hlen : P.length ≤ 1000) :
    Calls Tryz.prog 15 #[.pointer (some ⟨g, 0, none⟩), .int .i64 at_] w fun e w' => e = .returned (.int .i64 0) ∧
      ∃ q v' H', SlH 78 1 v' (P.length + 1) ((P ++ [(q, at_)]).map fun p => ptr p.1) H' ∧ Hp W w' (hostH g { h with ports := v' } :: (H' ++ (portH q at_ (.slice none 0 0) (.slice none 0 0) :: R))) := by
  have hl := listener_H hp hs hP at_
  rw [hq] at hl
  have HL := Lib.hid hl
  clear hl hq
  obtain ⟨A, c, hv, h1, h2, h3⟩ := hs.form
  have hcell := hp.head.cell 28
  have hcell10 : w.cell? ⟨g, 10, none⟩ = some (.int .i64 h.set.ports) := hp.head.cell 10
  have hc28 : w.cell? ⟨g, 28, none⟩ = some (.slice A P.length c) := by rw [hcell, ← hv]; rfl
  clear hcell
  obtain ⟨i0, hi, hz0, hz1, hz2⟩ := info_parts info_port
  have hlt : ¬ h.set.ports ≤ (P.length : Int) := by omega
  have HP := Lib.hid hp
  have HS := Lib.hid hs
  have HV := Lib.hid hv
  clear hp hs hv h3 hP
  go_enter Tryz.func15, Tryz.ntmps15
  go_wp2_with (first | ((with_reducible refine (good_any _ _).mono ?_); rintro e w' ⟨rfl, rfl⟩) | (refine HL.out.mono ?_; rintro e w' ⟨rfl, rfl⟩; simp only [optPtr, Option.map_none]))
  go_quiet (fail)
  have HD : Hid (Hp W ((((w.drewN nq).alloc (.cells #[.int .i64 at_, .slice none 0 0, .slice none 0 0] 98)).alloc (.cells #[.pointer (some ⟨w.heap.size, 0, none⟩)] 78))) (H ++ ((w.heap.size + 1, .cells #[.pointer (some ⟨w.heap.size, 0, none⟩)] 78 (0, 0)) :: portH w.heap.size at_ (.slice none 0 0) (.slice none 0 0) :: hostH g h :: R))) := by
    have e := ((HP.out.drewN nq).alloc (.cells #[.int .i64 at_, .slice none 0 0, .slice none 0 0] 98)).alloc (.cells #[.pointer (some ⟨w.heap.size, 0, none⟩)] 78)
    refine e.perm ?_
    simp only [World.size_alloc, World.heap_drewN, portH]
    exact (by classical (rw [List.perm_iff_count]; intro x; simp only [List.count_append, List.count_cons, List.count_nil]; omega))
  go_wp2_with (at_builtin; refine wpList_append_H rfl _ _ 71 rfl 78 i0 (.pointer none) 1 8 und_ports hi hz0 hz1 hz2 rfl (by decide) _ _ _ H _ rfl (by rw [← HV.out]; exact HS.out) HD.out (w.heap.size + 2) _ 1 1 [.pointer (some ⟨w.heap.size, 0, none⟩)] rfl ?c1 ?c2 ?c3 ?c4 (fun A' c' w1 H' hs1 hp1 => ?c5); case' c5 => (
    have hp2 : Hp W w1 (hostH g h :: (H' ++ ((w.heap.size + 1, .cells #[.pointer (some ⟨w.heap.size, 0, none⟩)] 78 (0, 0)) :: portH w.heap.size at_ (.slice none 0 0) (.slice none 0 0) :: R))) := hp1.perm (by classical (rw [List.perm_iff_count]; intro x; simp only [List.count_append, List.count_cons, List.count_nil]; omega))
    have hc1 : w1.cell? ⟨g, 28, none⟩ = some h.ports := hp2.head.cell 28
    have hf1 := hp2.head.frozen 28
    have HP2 := Lib.hid hp2
    have HS1 := Lib.hid hs1
    clear hp1 hp2 hs1))
  case c1 => exact Reads.one ((HD.out.mem (g := w.heap.size + 1) (cs := #[.pointer (some ⟨w.heap.size, 0, none⟩)]) (t := 78) (by simp)).cell 0)
  case c2 => intro u hu; rw [List.mem_singleton.1 hu]; rfl
  case c3 => unfold maxLen; omega
  case c4 => omega
  go_ret
  refine ⟨rfl, w.heap.size, .slice A' (P.length + 1) c', H', by rw [List.map_append]; exact HS1.out, ?_⟩
  generalize Value.slice A' (P.length + 1) c' = v'
  have e := HP2.out.set_ 28 v'
  have e2 : (hostH g { h with ports := v' }) = (g, .cells (h.cells.setIfInBounds 28 v') 73 (0, 0)) := rfl
  rw [e2]
  exact (e.perm (H' := (w.heap.size + 1, .cells #[.pointer (some ⟨w.heap.size, 0, none⟩)] 78 (0, 0)) :: (g, .cells (h.cells.setIfInBounds 28 v') 73 (0, 0)) :: (H' ++ (portH w.heap.size at_ (.slice none 0 0) (.slice none 0 0) :: R))) (by classical (rw [List.perm_iff_count]; intro x; simp only [List.count_append, List.count_cons, List.count_nil]; omega))).tail
end Go.Proofs.YtnmpafcflfjhgaaGreat

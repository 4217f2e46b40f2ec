/- The host's calls that find nobody, or nothing: Accept, Connect at a port at which one listens, Deliver of no segment; host.New. -/
import Derived.Test.YtnmpafcflfjhgaaGreatHost2
namespace Go.Proofs.YtnmpafcflfjhgaaGreat
open Go.RowKit

theorem accept_block {W w : World} {g : Nat} {h : HostC} {P : List (Nat × Int)} {H R : List (Nat × Obj)} (hp : Hp W w (hostH g h :: (H ++ R))) (hs : SlH 78 1 h.ports P.length (P.map fun p => ptr p.1) H) (hP : PortsIn P R) (at_ : Int)
    (q : Nat) (hq : findPort P at_ = some q) (half : Value) (hm : portH q at_ half (.slice none 0 0) ∈ R) :
    Calls Tryz.prog 23 #[.pointer (some ⟨g, 0, none⟩), .int .i64 at_] w fun e w' => e = .returned (.tuple #[.int .i64 0, .int .i64 210]) ∧ w = w' := by
  have hl := listener_H hp hs hP at_
  rw [hq] at hl
  have HL := Lib.hid hl
  clear hl hq
  have hb : Blk w q 98 #[.int .i64 at_, half, .slice none 0 0] := hp.mem (by rw [portH] at hm; simp [hm])
  have hc : w.cell? ⟨q, 2, none⟩ = some (.slice none 0 0) := hb.cell 2
  go_enter Tryz.func23, Tryz.ntmps23
  go_wp2_with (refine HL.out.mono ?_; rintro e w' ⟨rfl, rfl⟩; simp only [optPtr, Option.map_some])
  go_ret2
  exact ⟨rfl, rfl⟩

theorem connect_port {W w : World} {g : Nat} {h : HostC} {P : List (Nat × Int)} {H R : List (Nat × Obj)} (hp : Hp W w (hostH g h :: (H ++ R))) (hs : SlH 78 1 h.ports P.length (P.map fun p => ptr p.1) H) (hP : PortsIn P R) (lo re path : Int)
    (hb : win lo 1 65535 = true) (hb2 : win re 1 65535 = true) (q : Nat) (hq : findPort P lo = some q) :
    Calls Tryz.prog 10 #[.pointer (some ⟨g, 0, none⟩), .int .i64 lo, .int .i64 re, .int .i64 path] w fun e w' => e = .returned (.tuple #[.int .i64 0, .int .i64 202]) ∧ w = w' := by
  have hl := listener_H hp hs hP lo
  rw [hq] at hl
  have HL := Lib.hid hl
  clear hl hq
  go_enter Tryz.func10, Tryz.ntmps10
  go_wp2_with (first | ((with_reducible refine (good_any _ _).mono ?_); rintro e w' ⟨rfl, rfl⟩) | (refine HL.out.mono ?_; rintro e w' ⟨rfl, rfl⟩; simp only [optPtr, Option.map_some]))
  go_ret2
  exact ⟨rfl, rfl⟩

def noSeg : Array Value := #[.int .u16 0, .int .u16 0, .int .u32 0, .int .u32 0, .int .u8 0, .slice none 0 0, .slice none 0 0]

theorem get_nil (ss : Array Value) (g n : Nat) (k : Int) (w : World) (hb : Blk w g 3 ss) (h0 : ss[0]? = some (.int .i64 k)) (h1 : 1 ≤ k) (h8 : k ≤ 8) (hn : 0 < n) :
    Calls Tryz.prog 55 #[.slice none 0 0, .slice (some ⟨g, 0, none⟩) n n] w fun e w' => e = .returned (.tuple #[.slice none 0 0, .slice none 0 0, .bool false]) ∧ w = w' := by
  have hc : w.cell? ⟨g, 0, none⟩ = some (.int .i64 k) := by rw [hb.cell, h0]
  go_enter Tryz.func55, Tryz.ntmps55
  go_wp2
  refine wp_loop_rounds 1 ?_
  rw [rounds_succ]
  go_wp2
  go_ret3
  exact ⟨rfl, rfl⟩

theorem parse_nil (w : World) : Calls Tryz.prog 36 #[.slice none 0 0] w fun e w' => e = .returned (.tuple #[.agg noSeg, .int .i64 70]) ∧ Below w.heap.size w w' := by
  go_enter Tryz.func36, Tryz.ntmps36
  go_wp2_with (go_at_call 55; refine (get_nil #[.int .i64 2, .int .i64 2, .int .i64 4, .int .i64 4, .int .i64 1, .int .i64 1] (w.heap.size + 1) 6 2 _ (Blk.new_at _ _ (by simp)) rfl (by omega) (by omega) (by omega)).mono ?_; rintro e w' ⟨rfl, rfl⟩)
  refine bodyPost_ret (v := .tuple #[.agg noSeg, .int .i64 70]) (by simp [results, Tryz.results36, go_sem, noSeg]) rfl ⟨rfl, ?_⟩
  exact (by repeat (first | exact Below.refl _ _ | assumption | (refine Below.alloc ?_ (by (try simp) <;> omega) _) | (refine Below.setCell ?_ (by (try simp) <;> omega) _) | refine Below.drew ?_))

/-- What does not parse counts as malformed. -/
theorem deliver_bad {W w : World} {g : Nat} {h : HostC} {R : List (Nat × Obj)} (hp : Hp W w (hostH g h :: R)) (path : Int) (bv : Value) (code : Int) (hcode : code ≠ 0)
    (hparse : Calls Tryz.prog 36 #[bv] w fun e w' => e = .returned (.tuple #[.agg noSeg, .int .i64 code]) ∧ Below w.heap.size w w') (h0 : 0 ≤ h.cnt.malformed) (h1 : h.cnt.malformed < 9223372036854775807) :
    Calls Tryz.prog 16 #[.pointer (some ⟨g, 0, none⟩), .int .i64 path, bv] w fun e w' => e = .returned (.tuple #[]) ∧
      Hp W w' (hostH g { h with cnt := { h.cnt with malformed := h.cnt.malformed + 1 } } :: R) := by
  have hcode' : (code != 0) = true := by simp [hcode]
  have HPar := Lib.hid hparse
  clear hparse hcode
  have HP := Lib.hid hp
  have hsz := hp.head.lt
  clear hp
  go_enter Tryz.func16, Tryz.ntmps16
  unfold noSeg at HPar
  go_wp2_with (refine HPar.out.mono ?_; rintro e w1 ⟨rfl, hb⟩; (
    obtain ⟨hc, hf⟩ := bcell hb
    have hp1 := HP.out.under hb
    have hz := hb.size
    have hc6 : w1.cell? ⟨g, 6, none⟩ = some (.int .i64 h.cnt.malformed) := hp1.head.cell 6
    have hf6 := hp1.head.frozen 6

    have hlt : g < w1.heap.size := by omega
    have HP1 := Lib.hid hp1
    clear hp1 hb hc hf))
  refine bodyPost_ret (results_none rfl _ _ _) rfl ⟨rfl, ?_⟩
  exact ((HP1.out.set_ 6 (.int .i64 (h.cnt.malformed + 1))).alloc _).tail

theorem und_map : Tryz.prog.underlying 70 = some (.map 3 84) := by kernel_rfl
def mapH (g : Nat) (es : Array MapEntry) (clock : Nat) : Nat × Obj := (g, .map es clock)
/-- host.New, of a configuration that may be. -/
theorem new_ok {W w : World} {R : List (Nat × Obj)} (hp : Hp W w R) (c : Cfg) (k0 k1 : Int) (hr : c.right = true) :
    Calls Tryz.prog 6 #[.agg c.cells, .agg #[.int .u64 k0, .int .u64 k1]] w fun e w' => ∃ g m, e = .returned (.tuple #[.pointer (some ⟨g, 0, none⟩), .int .i64 0]) ∧
      Hp W w' (hostH g ⟨⟨0, 0, 0, 0, 0, 0, 0, 0, 0, 0⟩, c, k0, k1, 0, .slice none 0 0, m, 1, .slice none 0 0⟩ :: mapH m #[] 0 :: R) := by
  have hmm := @run_makeMap Tryz.prog
  have he : c.errno = 0 := by simp [Cfg.errno, hr]
  have hright := fun w => right_any c w
  simp only [he] at hright
  have HR := Lib.hid hright
  have HP := Lib.hid hp
  clear hright hp he hr
  unfold Cfg.cells at *
  go_enter Tryz.func6, Tryz.ntmps6
  go_wp2_with (go_at_call 8; refine (HR.out _).mono ?_; rintro e w' ⟨rfl, rfl⟩)
  go_ret2
  refine ⟨w.heap.size + 1 + 1 + 1 + 1, w.heap.size + 1 + 1 + 1, rfl, ?_⟩
  exact ((((HP.out.skip _).skip _).skip _).alloc_at _ (by simp)).alloc_at _ (by simp)

theorem new_bad (c : Cfg) (sd : Value) (hsd : ∃ a b, sd = .agg #[a, b]) (w : World) (hr : c.right = false) :
    Calls Tryz.prog 6 #[.agg c.cells, sd] w fun e w' => e = .returned (.tuple #[.pointer none, .int .i64 200]) ∧ Below w.heap.size w w' := by
  have he : c.errno = 200 := by simp [Cfg.errno, hr]
  have hright := fun w => right_any c w
  simp only [he] at hright
  have HR := Lib.hid hright
  obtain ⟨a, b, rfl⟩ := hsd
  clear hright he hr
  unfold Cfg.cells at *
  go_enter Tryz.func6, Tryz.ntmps6
  go_wp2_with (go_at_call 8; refine (HR.out _).mono ?_; rintro e w' ⟨rfl, rfl⟩)
  go_ret2
  exact ⟨rfl, (by repeat (first | exact Below.refl _ _ | assumption | (refine Below.alloc ?_ (by (try simp) <;> omega) _) | (refine Below.setCell ?_ (by (try simp) <;> omega) _) | refine Below.drew ?_))⟩

theorem usual_any (w : World) : Calls Tryz.prog 22 #[] w fun e w' => e = .returned (.agg (Cfg.cells ⟨2, 2, 3, 3, 64, 16, 4, 3, 8, 200, 20, 3, 1, 8, 1⟩)) ∧ Below w.heap.size w w' := by
  unfold Cfg.cells
  go_enter Tryz.func22, Tryz.ntmps22
  go_wp2
  refine bodyPost_ret (v := .agg (Cfg.cells ⟨2, 2, 3, 3, 64, 16, 4, 3, 8, 200, 20, 3, 1, 8, 1⟩)) (by simp [results, Tryz.results22, go_sem, Cfg.cells]) rfl ⟨rfl, ?_⟩
  exact (by repeat (first | exact Below.refl _ _ | assumption | (refine Below.alloc ?_ (by (try simp) <;> omega) _) | (refine Below.setCell ?_ (by (try simp) <;> omega) _) | refine Below.drew ?_))
end Go.Proofs.YtnmpafcflfjhgaaGreat

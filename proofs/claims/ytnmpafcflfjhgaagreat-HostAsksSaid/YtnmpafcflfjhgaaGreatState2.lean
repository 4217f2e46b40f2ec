/- A connection's parts, new. -/
import Derived.Test.YtnmpafcflfjhgaaGreatState
namespace Go.Proofs.YtnmpafcflfjhgaaGreat
open Go.RowKit

theorem made_bytes (n : Nat) : madeCells #[.int .u8 0] n = ((List.replicate n (0 : UInt8)).map bval).toArray := by
  apply Array.ext'
  rw [toList_madeCells_one]
  simp [bval]
set_option maxRecDepth 10000 in
theorem ringNew_any (n : Nat) (W w : World) (R : Hh) (hp : Hp W w R) (hm : 1 ≤ n) (hm2 : n ≤ 65536) : Calls Tryz.prog 133 #[.int .i64 n] w fun e w' => ∃ g H, e = .returned (.tuple #[.pointer (some ⟨g, 0, none⟩), .int .i64 0]) ∧ IsRing g ⟨List.replicate n 0, 0, 0⟩ H ∧ Hp W w' (H ++ R) := by
  obtain ⟨i0, hi, hz0, hz1, hz2⟩ := info_parts info_byte
  have HP := Lib.hid hp
  clear hp
  have hmk : ∀ w, (Instr.makeSlice 44 (.int .i64 (n : Int)) (.int .i64 (n : Int))).run Tryz.prog w = .ok (.slice (some ⟨w.heap.size, 0, none⟩) n n) (w.alloc (.cells ((List.replicate n (0 : UInt8)).map bval).toArray 5)) := by
    intro w
    have := run_make (P := Tryz.prog) w 44 5 i0 (.int .u8 0) und_bytes hi hz0 .i64 .i64 n n (by omega) (Int.le_refl _) (by rw [hz2]; omega) (by omega)
    rw [this]
    simp [hz1, made_bytes, Value.cells]
  have h1 : 1 ≤ (n : Int) := by omega
  have h2 : (n : Int) ≤ 65536 := by omega
  go_enter Tryz.func133, Tryz.ntmps133
  go_wp2
  go_ret2
  refine ⟨w.heap.size + 1, _, rfl, ⟨w.heap.size, rfl⟩, ?_⟩
  simp only [List.length_replicate, List.map_replicate, List.toArray_replicate, List.cons_append, List.nil_append]
  exact (HP.out.alloc _).alloc_at _ (by simp)
theorem outNew_any (n : Nat) (W w : World) (R : Hh) (hp : Hp W w R) (hm : 1 ≤ n) (hm2 : n ≤ 65536) : Calls Tryz.prog 89 #[.int .i64 n] w fun e w' => ∃ g H, e = .returned (.tuple #[.pointer (some ⟨g, 0, none⟩), .int .i64 0]) ∧ IsOut g ⟨⟨List.replicate n 0, 0, 0⟩, 0, false, false⟩ H ∧ Hp W w' (H ++ R) := by
  have HP := Lib.hid hp
  clear hp
  go_enter Tryz.func89, Tryz.ntmps89
  go_wp2_with ((refine (ringNew_any n W _ R HP.out hm hm2).mono ?_); rintro e w1 ⟨g, H, rfl, hr, hp1⟩; (have HP1 := Lib.hid hp1; have HR := Lib.hid hr; clear hp1 hr))
  go_ret2
  exact ⟨_, _, rfl, ⟨g, H, HR.out, rfl⟩, HP1.out.alloc _⟩
theorem inNew_any (n : Nat) (k : Int) (W w : World) (R : Hh) (hp : Hp W w R) (hm : 1 ≤ n) (hm2 : n ≤ 65536) (hk : 1 ≤ k) (hk2 : k ≤ 64) : Calls Tryz.prog 90 #[.int .i64 n, .int .i64 k] w fun e w' => ∃ g H, e = .returned (.tuple #[.pointer (some ⟨g, 0, none⟩), .int .i64 0]) ∧ IsIn g ⟨⟨List.replicate n 0, 0, 0⟩, ⟨k, []⟩, 0, 0, false⟩ H ∧ Hp W w' (H ++ R) := by
  have HP := Lib.hid hp
  clear hp
  go_enter Tryz.func90, Tryz.ntmps90
  go_wp2_with (first
    | ((refine (ringNew_any n W _ R HP.out hm hm2).mono ?_); rintro e w1 ⟨g, H, rfl, hr, hp1⟩; (have HP1 := Lib.hid hp1; have HR := Lib.hid hr; clear hp1 hr))
    | ((refine (spansNew_any k W _ _ HP1.out hk hk2).mono ?_); rintro e w2 ⟨g2, H2, rfl, hs, hp2⟩; (have HP2 := Lib.hid hp2; have HS := Lib.hid hs; clear hp2 hs)))
  go_ret2
  exact ⟨_, _, rfl, ⟨g, H, g2, H2, HR.out, HS.out, rfl⟩, (HP2.out.alloc _).perm (H' := _ :: (H ++ H2) ++ R) (by classical (rw [List.perm_iff_count]; intro x; simp only [List.count_append, List.count_cons, List.count_nil]; omega))⟩

/-- A path as it is made. -/
def newFlow (c : Cfg) (id path lo re first : Int) : FlowP :=
  { state := 1, nfirst := first, acked := first, next := (first + 1) % 4294967296, wait := 0, srtt := 0, dev := 0, known := false, shift := 0, id := id, path := path, loc := lo, rem := re, backup := false, first := false, nonce := 0, other := 0,
    win := ⟨c.mss, 4 * c.mss, 64 * c.mss, 0, 0⟩, trust := ⟨0, c.score, 0⟩, chal := ⟨c.burst, c.rate, c.burst⟩, idle := 0, quiet := 0, heard := false, age := 0, tries := 0 }
theorem Cfg.bounds {c : Cfg} (h : c.right = true) : (0 ≤ c.ports ∧ c.ports ≤ 8) ∧ (0 ≤ c.half ∧ c.half ≤ 8) ∧ (0 ≤ c.conns ∧ c.conns ≤ 8) ∧ (1 ≤ c.flows ∧ c.flows ≤ 4) ∧ (1 ≤ c.buffer ∧ c.buffer ≤ 4096) ∧ (1 ≤ c.chunks ∧ c.chunks ≤ 64) ∧ (0 ≤ c.addrs ∧ c.addrs ≤ 8) ∧ (1 ≤ c.paths ∧ c.paths ≤ 4) ∧ (1 ≤ c.mss ∧ c.mss ≤ 1024) ∧ (2 ≤ c.silence ∧ c.silence ≤ 4096) ∧ (1 ≤ c.keep ∧ c.keep ≤ 4096 ∧ c.keep < c.silence) ∧ (0 ≤ c.burst ∧ c.burst ≤ 4096) ∧ (0 ≤ c.rate ∧ c.rate ≤ 4096) ∧ (1 ≤ c.score ∧ c.score ≤ 4096) ∧ (1 ≤ c.policy ∧ c.policy ≤ 3) := by
  simp only [Cfg.right, Cfg.many, Cfg.size, Cfg.time, Cfg.rest, win, Bool.and_eq_true, decide_eq_true_eq] at h
  omega
theorem Hp.head_eq {W w : World} {g : Nat} {t : TypeId} {cs cs' : Array Value} {R : Hh} (h : Hp W w ((g, .cells cs t (0, 0)) :: R)) (e : cs = cs') : Hp W w ((g, .cells cs' t (0, 0)) :: R) := by subst e; exact h
theorem Hp.behind4 {W w : World} {a b c d : Nat × Obj} {H R : Hh} (h : Hp W w (H ++ (a :: b :: c :: d :: R))) : Hp W w (a :: b :: c :: d :: (H ++ R)) := h.perm (by classical (rw [List.perm_iff_count]; intro x; simp only [List.count_append, List.count_cons, List.count_nil]; omega))
theorem Hp.behind3 {W w : World} {a b c : Nat × Obj} {H R : Hh} (h : Hp W w (H ++ (a :: b :: c :: R))) : Hp W w (a :: b :: c :: (H ++ R)) := h.perm (by classical (rw [List.perm_iff_count]; intro x; simp only [List.count_append, List.count_cons, List.count_nil]; omega))
theorem Hp.behind2 {W w : World} {a b : Nat × Obj} {H R : Hh} (h : Hp W w (H ++ (a :: b :: R))) : Hp W w (a :: b :: (H ++ R)) := h.perm (by classical (rw [List.perm_iff_count]; intro x; simp only [List.count_append, List.count_cons, List.count_nil]; omega))
theorem Hp.behind1 {W w : World} {a : Nat × Obj} {H R : Hh} (h : Hp W w (H ++ (a :: R))) : Hp W w (a :: (H ++ R)) := h.perm (by classical (rw [List.perm_iff_count]; intro x; simp only [List.count_append, List.count_cons, List.count_nil]; omega))
theorem Hp.move1 {W w : World} {a b : Nat × Obj} {R : Hh} (h : Hp W w (a :: b :: R)) : Hp W w (b :: a :: R) := h.perm (by classical (rw [List.perm_iff_count]; intro x; simp only [List.count_append, List.count_cons, List.count_nil]; omega))
theorem Hp.move2 {W w : World} {a b c : Nat × Obj} {R : Hh} (h : Hp W w (a :: b :: c :: R)) : Hp W w (b :: c :: a :: R) := h.perm (by classical (rw [List.perm_iff_count]; intro x; simp only [List.count_append, List.count_cons, List.count_nil]; omega))
theorem Hp.move3 {W w : World} {a b c d : Nat × Obj} {R : Hh} (h : Hp W w (a :: b :: c :: d :: R)) : Hp W w (b :: c :: d :: a :: R) := h.perm (by classical (rw [List.perm_iff_count]; intro x; simp only [List.count_append, List.count_cons, List.count_nil]; omega))
def flowCells0 (id path lo re : Int) : Array Value := #[.int .i64 0, .int .u32 0, .int .u32 0, .int .u32 0, .int .u32 0, .int .i64 0, .int .i64 0, .bool false, .int .i64 0,
  .int .i64 id, .int .i64 path, .int .u16 lo, .int .u16 re, .bool false, .bool false, .int .u32 0, .int .u32 0, .pointer none, .pointer none, .pointer none, .int .i64 0, .int .i64 0, .bool false, .int .i64 0, .int .i64 0]
set_option maxHeartbeats 1000000 in
set_option maxRecDepth 10000 in
theorem flowNew_any (c : Cfg) (hc : c.right = true) (id path lo re first : Int) (hf : 0 ≤ first) (hf2 : first < 4294967296) (W w : World) (R : Hh) (hp : Hp W w R) : Calls Tryz.prog 50 #[.agg c.cells, .int .i64 id, .agg #[.int .i64 path, .int .u16 lo, .int .u16 re], .int .u32 first] w fun e w' => ∃ g H, e = .returned (.pointer (some ⟨g, 0, none⟩)) ∧ IsFlow g (newFlow c id path lo re first) H ∧ Hp W w' (H ++ R) := by
  have HP := Lib.hid hp
  obtain ⟨_, _, _, _, _, _, _, _, ⟨b1, b2⟩, _, _, ⟨b3, b4⟩, ⟨b5, b6⟩, ⟨b7, b8⟩, _⟩ := Cfg.bounds hc
  clear hp hc
  unfold Cfg.cells
  go_enter Tryz.func50, Tryz.ntmps50
  have HA := Lib.hid ((((HP.out.alloc_at (.cells c.cells 24 (0, 0)) rfl).alloc_at (n := w.heap.size + 1) (.cells #[.int .i64 path, .int .u16 lo, .int .u16 re] 81 (0, 0)) (by simp)).alloc_at (n := w.heap.size + 1 + 1) (.cells (flowCells0 id path lo re) 137 (0, 0)) (by simp)))
  unfold flowCells0 Cfg.cells at HA
  go_wp2_with (first
    | (go_at_call 93; (refine (cwndNew_any c.mss W _ _ HA.out b1 b2).mono ?_); rintro e w1 ⟨g1, rfl, hp1⟩; (
        have hq1 := hp1.move3
        have hc1 := hq1.head.cell
        have hf1 := hq1.head.frozen
        have hd1 := hq1.tail.tail.head.cell
        have HP1 := Lib.hid hq1
        clear hp1 hq1))
    | (go_at_call 94; (refine (quarNew_any c.score W _ _ (HP1.out.set_ 17 (.pointer (some ⟨g1, 0, none⟩))) b7 b8).mono ?_); rintro e w2 ⟨g2, rfl, hp2⟩; (
        have hq2 := hp2.move3
        have hc2 := hq2.head.cell
        have hf2 := hq2.head.frozen
        have hd2 := hq2.tail.tail.head.cell
        have HP2 := Lib.hid hq2
        clear hp2 hq2 hc1 hf1 hd1))
    | (go_at_call 95; (refine (bucketNew_any c.burst c.rate W _ _ (HP2.out.set_ 18 (.pointer (some ⟨g2, 0, none⟩))) b3 b4 b5 b6).mono ?_); rintro e w3 ⟨g3, rfl, hp3⟩; (
        have hq3 := hp3.move3
        have hc3 := hq3.head.cell
        have hf3 := hq3.head.frozen
        have hd3 := hq3.tail.tail.head.cell
        have HP3 := Lib.hid hq3
        clear hp3 hq3 hc2 hf2 hd2)))
  go_ret
  have e := ((((HP3.out.set_ 19 (.pointer (some ⟨g3, 0, none⟩))).set_ 0 (.int .i64 1)).set_ 1 (.int .u32 first)).set_ 2 (.int .u32 first)).set_ 3 (.int .u32 ((first + 1) % 4294967296))
  refine ⟨w.heap.size + 1 + 1, _, rfl, ⟨g1, g2, g3, rfl⟩, ?_⟩
  have e2 : ((w.heap.size + 1 + 1, .cells ((newFlow c id path lo re first).cells g1 g2 g3) 137 (0, 0)) :: bucketH g3 ⟨c.burst, c.rate, c.burst⟩ :: scoreH g2 ⟨0, c.score, 0⟩ :: winH g1 ⟨c.mss, 4 * c.mss, 64 * c.mss, 0, 0⟩ :: R).Perm ([(w.heap.size + 1 + 1, .cells ((newFlow c id path lo re first).cells g1 g2 g3) 137 (0, 0)), winH g1 ⟨c.mss, 4 * c.mss, 64 * c.mss, 0, 0⟩, scoreH g2 ⟨0, c.score, 0⟩, bucketH g3 ⟨c.burst, c.rate, c.burst⟩] ++ R) := (by classical (rw [List.perm_iff_count]; intro x; simp only [List.count_append, List.count_cons, List.count_nil]; omega))
  exact Hp.perm (e.move2.tail.tail.head_eq (by simp [newFlow, FlowP.cells])) e2

/-- A connection's own cells. -/
structure ConnC where
  idK0 : Int
  idK1 : Int
  clK0 : Int
  clK1 : Int
  svK0 : Int
  svK1 : Int
  jnK0 : Int
  jnK1 : Int
  token : Int
  set : Cfg
  role : Int
  state : Int
  cause : Int
  mine : Int
  theirs : Int
  keyed : Bool
  fpath : Int
  floc : Int
  frem : Int
  next : Int
  sent : Int
  edge : Int
  heard : Int
  told : Int
  last : Int
  silence : Int
  stall : Int
  rejoin : Int
  now : Int
def ConnC.cells (c : ConnC) (flows : Value) (out inn way offers : Nat) (mayUse post : Value) : Array Value := #[.int .u64 c.idK0, .int .u64 c.idK1, .int .u64 c.clK0, .int .u64 c.clK1, .int .u64 c.svK0, .int .u64 c.svK1, .int .u64 c.jnK0, .int .u64 c.jnK1, .int .u32 c.token,
  .int .i64 c.set.ports, .int .i64 c.set.half, .int .i64 c.set.conns, .int .i64 c.set.flows, .int .i64 c.set.buffer, .int .i64 c.set.chunks, .int .i64 c.set.addrs, .int .i64 c.set.paths, .int .i64 c.set.mss, .int .i64 c.set.silence, .int .i64 c.set.keep, .int .i64 c.set.burst, .int .i64 c.set.rate, .int .i64 c.set.score, .int .i64 c.set.policy,
  .int .i64 c.role, .int .i64 c.state, .int .i64 c.cause, .int .u64 c.mine, .int .u64 c.theirs, .bool c.keyed, .int .i64 c.fpath, .int .u16 c.floc, .int .u16 c.frem, flows, .int .i64 c.next,
  .pointer (some ⟨out, 0, none⟩), .pointer (some ⟨inn, 0, none⟩), .pointer (some ⟨way, 0, none⟩), .pointer (some ⟨offers, 0, none⟩), mayUse, .int .u64 c.sent, .int .u64 c.edge, .int .u32 c.heard, .int .u32 c.told, .int .i64 c.last, .int .i64 c.silence, .int .i64 c.stall, .int .i64 c.rejoin, .int .i64 c.now, post]
end Go.Proofs.YtnmpafcflfjhgaaGreat

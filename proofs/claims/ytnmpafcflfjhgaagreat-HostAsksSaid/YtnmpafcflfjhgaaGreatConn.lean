/- A connection in memory; a new one. -/
import Derived.Test.YtnmpafcflfjhgaaGreatState2
namespace Go.Proofs.YtnmpafcflfjhgaaGreat
open Go.RowKit

structure PktP where
  path : Int
  bytes : List UInt8
/-- A slice that reads as bytes, of a block of the fragment. -/
def BytesIn (I : Hh) (v : Value) (l : List UInt8) : Prop :=
  ∃ A c, v = .slice A l.length c ∧ l.length ≤ c ∧ c ≤ maxLen ∧ (l = [] ∨ ∃ g off cs t, A = some ⟨g, off, none⟩ ∧ (g, .cells cs t (0, 0)) ∈ I ∧ ∀ (k : Nat) (h : k < l.length), cs[off + k]? = some (bval (l[k]'h)))
theorem BytesIn.mono {I I' : Hh} {v : Value} {l : List UInt8} (h : BytesIn I v l) (hs : ∀ p ∈ I, p ∈ I') : BytesIn I' v l := by
  obtain ⟨A, c, h1, h2, h3, h4⟩ := h
  refine ⟨A, c, h1, h2, h3, h4.imp id ?_⟩
  rintro ⟨g, off, cs, t, a1, a2, a3⟩
  exact ⟨g, off, cs, t, a1, hs _ a2, a3⟩
theorem BytesIn.at_ {I H : Hh} {v : Value} {l : List UInt8} {W w : World} (h : BytesIn I v l) (hp : Hp W w H) (hs : ∀ p ∈ I, p ∈ H) : BytesAt w v l := by
  obtain ⟨A, c, h1, h2, h3, h4⟩ := h
  refine ⟨A, c, h1, h2, h3, fun k hk => ?_⟩
  rcases h4 with rfl | ⟨g, off, cs, t, a1, a2, a3⟩
  · exact absurd hk (Nat.not_lt_zero _)
  · refine ⟨g, off, a1, ?_⟩
    have hb : Blk w g t cs := hp.mem (hs _ a2)
    rw [hb.cell, a3 k hk, bval]
theorem SlH.bytesIn {e : TypeId} {A : Option Addr} {n c : Nat} {l : List UInt8} {H : Hh} (h : SlH e 1 (.slice A n c) n (l.map bval) H) : BytesIn H (.slice A n c) l := by
  have hl : l.length = n := by have := h.1; simpa using this
  rcases h.2 with ⟨hv, rfl, rfl⟩ | ⟨g, cap, cur, hv, h1, h2, h3, h4, rfl⟩
  · injection hv with hA _ hc
    subst hA; subst hc
    exact ⟨none, 0, by rw [hl], by omega, Nat.zero_le _, .inl (List.eq_nil_of_length_eq_zero hl)⟩
  · injection hv with hA _ hc
    subst hA; subst hc
    refine ⟨_, c, by rw [hl], by omega, h2, .inr ⟨g, 0, cur, e, rfl, by simp, fun k hk => ?_⟩⟩
    have h5 : (l.map bval)[k]? = some (bval (l[k]'hk)) := by simp [hk]
    rw [← h4, List.getElem?_take] at h5
    rw [Nat.zero_add]
    split at h5
    · simpa using h5
    · cases h5
def pktCells (x : PktP × Value) : List Value := [.int .i64 x.1.path, x.2]
def IsPkts (I : Hh) (v : Value) (ps : List PktP) (H : Hh) : Prop :=
  ∃ us : List Value, us.length = ps.length ∧ SlH 54 2 v ps.length ((ps.zip us).flatMap pktCells) H ∧ ∀ (k : Nat) (h1 : k < us.length) (h2 : k < ps.length), BytesIn I (us[k]'h1) (ps[k]'h2).bytes
theorem IsPkts.nil_ (I : Hh) : IsPkts I (.slice none 0 0) [] [] := ⟨[], rfl, SlH.nil_ _ _, fun k h => absurd h (Nat.not_lt_zero _)⟩
theorem IsPkts.mono {I I' : Hh} {v : Value} {ps : List PktP} {H : Hh} (h : IsPkts I v ps H) (hs : ∀ p ∈ I, p ∈ I') : IsPkts I' v ps H := by
  obtain ⟨us, h1, h2, h3⟩ := h
  exact ⟨us, h1, h2, fun k a b => (h3 k a b).mono hs⟩
structure ConnP where
  c : ConnC
  flows : List FlowP
  out : OutP
  inn : InP
  way : WayP
  offers : TableP
  mayUse : List Int
  post : List PktP
/-- A connection: where it lies, where its paths lie, what it holds; its blocks. The packets' bytes are blocks of I. -/
def IsConn (I : Hh) (x : Nat) (fs : List Nat) (p : ConnP) (H : Hh) : Prop :=
  ∃ fv Hf HF o Ho i Hi w Hw a Ha mv Hm pv Hq, SlH 101 1 fv p.flows.length (fs.map ptr) Hf ∧ IsFlows fs p.flows HF ∧ IsOut o p.out Ho ∧ IsIn i p.inn Hi ∧ IsWay w p.way Hw ∧ IsTable a p.offers Ha ∧
    SlH 3 1 mv p.mayUse.length (p.mayUse.map (Value.int .i64)) Hm ∧ IsPkts I pv p.post Hq ∧
    H = (x, .cells (p.c.cells fv o i w a mv pv) 146 (0, 0)) :: (Hf ++ (HF ++ (Ho ++ (Hi ++ (Hw ++ (Ha ++ (Hm ++ Hq)))))))

theorem outNew_int (b : Int) (W w : World) (R : Hh) (hp : Hp W w R) (hm : 1 ≤ b) (hm2 : b ≤ 4096) : Calls Tryz.prog 89 #[.int .i64 b] w fun e w' => ∃ g H, e = .returned (.tuple #[.pointer (some ⟨g, 0, none⟩), .int .i64 0]) ∧ IsOut g ⟨⟨List.replicate b.toNat 0, 0, 0⟩, 0, false, false⟩ H ∧ Hp W w' (H ++ R) := by
  obtain ⟨n, rfl⟩ : ∃ n : Nat, b = n := ⟨b.toNat, by omega⟩
  rw [Int.toNat_natCast]
  exact outNew_any n W w R hp (by omega) (by omega)
theorem inNew_int (b : Int) (k : Int) (W w : World) (R : Hh) (hp : Hp W w R) (hm : 1 ≤ b) (hm2 : b ≤ 4096) (hk : 1 ≤ k) (hk2 : k ≤ 64) : Calls Tryz.prog 90 #[.int .i64 b, .int .i64 k] w fun e w' => ∃ g H, e = .returned (.tuple #[.pointer (some ⟨g, 0, none⟩), .int .i64 0]) ∧ IsIn g ⟨⟨List.replicate b.toNat 0, 0, 0⟩, ⟨k, []⟩, 0, 0, false⟩ H ∧ Hp W w' (H ++ R) := by
  obtain ⟨n, rfl⟩ : ∃ n : Nat, b = n := ⟨b.toNat, by omega⟩
  rw [Int.toNat_natCast]
  exact inNew_any n k W w R hp (by omega) (by omega) hk hk2
/-- A connection's parts, new. -/
def freshC (c : Cfg) (role mine path lo re : Int) : ConnC :=
  { idK0 := 0, idK1 := 0, clK0 := 0, clK1 := 0, svK0 := 0, svK1 := 0, jnK0 := 0, jnK1 := 0, token := 0, set := c, role := role, state := 1, cause := 0, mine := mine, theirs := 0, keyed := false, fpath := path, floc := lo, frem := re, next := 1, sent := 0, edge := 0, heard := 0, told := 0, last := 0, silence := 0, stall := 0, rejoin := 0, now := 0 }
def freshP (c : Cfg) (role mine path lo re : Int) : ConnP :=
  { c := freshC c role mine path lo re, flows := [], out := ⟨⟨List.replicate c.buffer.toNat 0, 0, 0⟩, 0, false, false⟩, inn := ⟨⟨List.replicate c.buffer.toNat 0, 0, 0⟩, ⟨c.chunks, []⟩, 0, 0, false⟩, way := ⟨c.chunks, []⟩, offers := ⟨⟨64, 1, 64⟩, c.addrs, c.paths, []⟩, mayUse := [path], post := [] }
def connCells0 (c : Cfg) (role mine path lo re : Int) (m : Nat) : Array Value := #[.int .u64 0, .int .u64 0, .int .u64 0, .int .u64 0, .int .u64 0, .int .u64 0, .int .u64 0, .int .u64 0, .int .u32 0,
  .int .i64 c.ports, .int .i64 c.half, .int .i64 c.conns, .int .i64 c.flows, .int .i64 c.buffer, .int .i64 c.chunks, .int .i64 c.addrs, .int .i64 c.paths, .int .i64 c.mss, .int .i64 c.silence, .int .i64 c.keep, .int .i64 c.burst, .int .i64 c.rate, .int .i64 c.score, .int .i64 c.policy,
  .int .i64 role, .int .i64 1, .int .i64 0, .int .u64 mine, .int .u64 0, .bool false, .int .i64 path, .int .u16 lo, .int .u16 re, .slice none 0 0, .int .i64 1,
  .pointer none, .pointer none, .pointer none, .pointer none, .slice (some ⟨m, 0, none⟩) 1 1, .int .u64 0, .int .u64 0, .int .u32 0, .int .u32 0, .int .i64 0, .int .i64 0, .int .i64 0, .int .i64 0, .int .i64 0, .slice none 0 0]
theorem Hp.freshed {W w : World} {x m en cf : Nat × Obj} {A V I O R : Hh} (h : Hp W w (x :: m :: en :: cf :: (A ++ (V ++ (I ++ (O ++ R)))))) : Hp W w ((x :: ([] ++ ([] ++ (O ++ (I ++ (V ++ (A ++ ([m] ++ [])))))))) ++ R) :=
  (h.perm (H' := en :: cf :: ((x :: ([] ++ ([] ++ (O ++ (I ++ (V ++ (A ++ ([m] ++ [])))))))) ++ R)) (by classical (rw [List.perm_iff_count]; intro x; simp only [List.count_append, List.count_cons, List.count_nil]; omega))).tail.tail
set_option maxHeartbeats 2000000 in
set_option maxRecDepth 10000 in
theorem fresh_any (c : Cfg) (hc : c.right = true) (role mine path lo re : Int) (W w : World) (R : Hh) (hp : Hp W w R) : Calls Tryz.prog 49 #[.agg c.cells, .int .i64 role, .int .u64 mine, .agg #[.int .i64 path, .int .u16 lo, .int .u16 re]] w fun e w' => ∃ x H, e = .returned (.pointer (some ⟨x, 0, none⟩)) ∧ (∀ I, IsConn I x [] (freshP c role mine path lo re) H) ∧ Hp W w' (H ++ R) := by
  have HP := Lib.hid hp
  obtain ⟨_, _, _, _, ⟨b1, b2⟩, ⟨b3, b4⟩, ⟨b5, b6⟩, ⟨b7, b8⟩, _⟩ := Cfg.bounds hc
  clear hp hc
  have HA := Lib.hid ((((HP.out.alloc_at (.cells c.cells 24 (0, 0)) rfl).alloc_at (n := w.heap.size + 1) (.cells #[.int .i64 path, .int .u16 lo, .int .u16 re] 81 (0, 0)) (by simp)).alloc_at (n := w.heap.size + 1 + 1) (.cells #[.int .i64 path] 3 (0, 0)) (by simp)).alloc_at (n := w.heap.size + 1 + 1 + 1) (.cells (connCells0 c role mine path lo re (w.heap.size + 1 + 1)) 146 (0, 0)) (by simp))
  unfold connCells0 Cfg.cells at HA
  unfold Cfg.cells
  go_enter Tryz.func49, Tryz.ntmps49
  go_wp2_with (first
    | (go_at_call 89; (refine (outNew_int c.buffer W _ _ HA.out b1 b2).mono ?_); rintro e w1 ⟨o, Ho, rfl, ho, hp1⟩; (
        have hq1 := hp1.behind4
        have hc1 := hq1.head.cell
        have hf1 := hq1.head.frozen
        have hd1 := hq1.tail.tail.tail.head.cell
        have HP1 := Lib.hid hq1
        have HO := Lib.hid ho
        clear hp1 hq1 ho))
    | (go_at_call 90; (refine (inNew_int c.buffer c.chunks W _ _ (HP1.out.set_ 35 (.pointer (some ⟨o, 0, none⟩))) b1 b2 b3 b4).mono ?_); rintro e w2 ⟨i, Hi, rfl, hi, hp2⟩; (
        have hq2 := hp2.behind4
        have hc2 := hq2.head.cell
        have hf2 := hq2.head.frozen
        have hd2 := hq2.tail.tail.tail.head.cell
        have HP2 := Lib.hid hq2
        have HI := Lib.hid hi
        clear hp2 hq2 hi hc1 hf1 hd1))
    | (go_at_call 91; (refine (flightNew_any c.chunks W _ _ (HP2.out.set_ 36 (.pointer (some ⟨i, 0, none⟩))) b3 b4).mono ?_); rintro e w3 ⟨v, Hv, rfl, hv, hp3⟩; (
        have hq3 := hp3.behind4
        have hc3 := hq3.head.cell
        have hf3 := hq3.head.frozen
        have hd3 := hq3.tail.tail.tail.head.cell
        have HP3 := Lib.hid hq3
        have HV := Lib.hid hv
        clear hp3 hq3 hv hc2 hf2 hd2))
    | (go_at_call 92; (refine (addrsNew_any c.addrs c.paths W _ _ (HP3.out.set_ 37 (.pointer (some ⟨v, 0, none⟩))) b5 b6 b7 b8).mono ?_); rintro e w4 ⟨a, Ha, rfl, ha, hp4⟩; (
        have hq4 := hp4.behind4
        have hc4 := hq4.head.cell
        have hf4 := hq4.head.frozen
        have HP4 := Lib.hid hq4
        have HT := Lib.hid ha
        clear hp4 hq4 ha hc3 hf3 hd3)))
  go_ret
  have e := (HP4.out.set_ 38 (.pointer (some ⟨a, 0, none⟩))).head_eq (cs' := (freshC c role mine path lo re).cells (.slice none 0 0) o i v a (.slice (some ⟨w.heap.size + 1 + 1, 0, none⟩) 1 1) (.slice none 0 0)) (by simp [freshC, ConnC.cells])
  refine ⟨w.heap.size + 1 + 1 + 1, _, rfl, fun I => ⟨_, [], [], o, Ho, i, Hi, v, Hv, a, Ha, _, [(w.heap.size + 1 + 1, .cells #[.int .i64 path] 3 (0, 0))], _, [], SlH.nil_ _ _, IsFlows.nil, HO.out, HI.out, HV.out, HT.out, ⟨rfl, .inr ⟨w.heap.size + 1 + 1, 1, _, rfl, Nat.le_refl _, by unfold maxLen; omega, rfl, rfl, rfl⟩⟩, IsPkts.nil_ I, rfl⟩, ?_⟩
  exact Hp.freshed e
end Go.Proofs.YtnmpafcflfjhgaaGreat

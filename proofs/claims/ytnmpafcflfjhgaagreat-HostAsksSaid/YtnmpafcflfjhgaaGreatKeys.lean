/- Keys: the number that a seed draws, pairs, a session's keys. -/
import Derived.Test.YtnmpafcflfjhgaaGreatPack
import Derived.Deep.RegionHeld3
namespace Go.Proofs.YtnmpafcflfjhgaaGreat
open Go.RowKit

def fieldCells (fs : List (Int × Int)) : List Value := fs.flatMap fun f => [.int .i64 f.1, .int .u64 f.2]
theorem fieldCells_at (fs : List (Int × Int)) (k : Nat) (h : k < fs.length) : (fieldCells fs)[k * 2]? = some (.int .i64 (fs[k]'h).1) ∧ (fieldCells fs)[k * 2 + 1]? = some (.int .u64 (fs[k]'h).2) := by
  induction fs generalizing k with
  | nil => exact absurd h (Nat.not_lt_zero _)
  | cons f fs ih =>
    have e : fieldCells (f :: fs) = .int .i64 f.1 :: .int .u64 f.2 :: fieldCells fs := rfl
    rw [e]
    cases k with
    | zero => exact ⟨rfl, rfl⟩
    | succ k =>
      have h' : k < fs.length := by simpa using h
      have e2 : (k + 1) * 2 = k * 2 + 1 + 1 := by omega
      rw [e2]
      exact ih k h'
/-- The fields of a list that a statement builds. -/
theorem FieldsAt.lit {w : World} {g : Nat} {t : TypeId} (fs : List (Int × Int)) (h : Blk w g t (fieldCells fs).toArray) (hu : ∀ f ∈ fs, U64 f.2) (hn : fs.length ≤ 1000) : FieldsAt w (.slice (some ⟨g, 0, none⟩) fs.length fs.length) fs := by
  refine ⟨_, _, rfl, Nat.le_refl _, by unfold maxLen; omega, fun k hk => ⟨g, 0, rfl, ?_, ?_, hu _ (List.getElem_mem hk)⟩⟩
  · rw [Nat.zero_add, h.cell]
    simpa using (fieldCells_at fs k hk).1
  · rw [Nat.zero_add, h.cell]
    simpa using (fieldCells_at fs k hk).2
/-- The parts of a list that a statement builds. -/
theorem PartsAt.lit {w : World} {g : Nat} {t : TypeId} {us : List Value} {ls : List (List UInt8)} (h : Blk w g t us.toArray) (hl : us.length = ls.length) (hn : ls.length ≤ 1000) (hu : ∀ k (h1 : k < us.length) (h2 : k < ls.length), BytesAt w us[k] ls[k]) : PartsAt w (.slice (some ⟨g, 0, none⟩) ls.length ls.length) ls := by
  refine ⟨_, _, rfl, Nat.le_refl _, by unfold maxLen; omega, fun k hk => ⟨g, 0, us[k]'(by omega), rfl, ?_, hu k (by omega) hk⟩⟩
  rw [Nat.zero_add, h.cell]
  simp
theorem PartsAt.one {w : World} {g : Nat} {t : TypeId} {u : Value} {l : List UInt8} (h : Blk w g t #[u]) (hu : BytesAt w u l) : PartsAt w (.slice (some ⟨g, 0, none⟩) 1 1) [l] :=
  PartsAt.lit (us := [u]) (ls := [l]) h rfl (by simp) fun k h1 h2 => by
    obtain rfl : k = 0 := by simpa using h1
    exact hu
theorem SlH.bytes {W w : World} {e : TypeId} {A : Option Addr} {n c : Nat} {l : List UInt8} {H R : List (Nat × Obj)} (h : SlH e 1 (.slice A n c) n (l.map bval) H) (hp : Hp W w (H ++ R)) : BytesAt w (.slice A n c) l := BytesAt.of_own (h.own hp)
theorem SlH.bytes0 {W w : World} {e : TypeId} {A : Option Addr} {n c : Nat} {l : List UInt8} {H : List (Nat × Obj)} (h : SlH e 1 (.slice A n c) n (l.map bval) H) (hp : Hp W w H) : BytesAt w (.slice A n c) l := SlH.bytes (R := []) h (by simpa using hp)
theorem below_kept {w w' : World} {a : Addr} {v : Value} (hb : Below w.heap.size w w') (h : w.cell? a = some v) : w'.cell? a = some v := (hb.cell (World.block_lt_of_cell? w _ h)).trans h
theorem below_keptA {w w' : World} {o : Obj} {a : Addr} {v : Value} (hb : Below (w.alloc o).heap.size (w.alloc o) w') (h : w.cell? a = some v) : w'.cell? a = some v :=
  below_kept hb ((World.cell?_alloc_lt w o a (World.block_lt_of_cell? w _ h)).trans h)
theorem below_next {w w1 w2 : World} {o : Obj} {B : Nat} (h : Below B w w1) (hB : B ≤ w.heap.size) (h2 : Below (w1.alloc o).heap.size (w1.alloc o) w2) : Below B w w2 :=
  (h.alloc (Nat.le_trans hB h.size) o).trans (h2.mono (by have := h.size; rw [World.size_alloc]; omega))
theorem Below.size_alloc {w w' : World} {o : Obj} {B : Nat} (h : Below B (w.alloc o) w') : w.heap.size < w'.heap.size := by
  have hq := h.size
  rw [World.size_alloc] at hq
  omega
theorem Q_any (n : Int) (w : World) : Calls Tryz.prog 32 #[.int .u64 n] w fun e w' => e = .returned (.agg #[.int .i64 8, .int .u64 n]) ∧ Below w.heap.size w w' := by
  go_enter Tryz.func32, Tryz.ntmps32
  go_wp2
  refine bodyPost_ret (v := .agg #[.int .i64 8, .int .u64 n]) (by simp [results, Tryz.results32, go_sem]) rfl ⟨rfl, ?_⟩
  exact (by repeat (first | exact Below.refl _ _ | assumption | (refine Below.alloc ?_ (by (try simp) <;> omega) _) | (refine Below.setCell ?_ (by (try simp) <;> omega) _) | refine Below.drew ?_))

/-- The number that a seed draws as the how-manieth. -/
def drawn (k0 k1 n : Int) : Int := sipSum k0 k1 (fieldBytes (8, n))
set_option maxHeartbeats 1000000 in
set_option maxRecDepth 100000 in
theorem drawn_any (w : World) (k0 k1 n : Int) (hn : U64 n) : Calls Tryz.prog 12 #[.agg #[.int .u64 k0, .int .u64 k1], .int .u64 n] w fun e w' => e = .returned (.int .u64 (drawn k0 k1 n)) ∧ Below w.heap.size w w' := by
  have HF : Hid (∀ f ∈ [((8 : Int), n)], U64 f.2) := Lib.hid fun f hf => by rw [List.mem_singleton.1 hf]; exact hn
  have HFL : Hid ([fieldBytes (8, n)].flatten.length ≤ 140737488355000) := Lib.hid (by
    have := fieldBytes_len (8, n)
    simp only [List.flatten_cons, List.flatten_nil, List.append_nil]
    omega)
  go_enter Tryz.func12, Tryz.ntmps12
  go_wp2
  go_cut [4] (fun s4 wx => s4 = .int .u64 (drawn k0 k1 n) ∧ Below w.heap.size w wx)
  case first =>
    have h00 : (w.alloc (.cells #[.int .u64 k0, .int .u64 k1] 31)).cell? ⟨w.heap.size, 0, none⟩ = some (.int .u64 k0) := by simp
    have h01 : (w.alloc (.cells #[.int .u64 k0, .int .u64 k1] 31)).cell? ⟨w.heap.size, 1, none⟩ = some (.int .u64 k1) := by simp
    go_region_held3 (fun w' => w'.cell? ⟨w.heap.size, 0, none⟩ = some (.int .u64 k0) ∧ w'.cell? ⟨w.heap.size, 1, none⟩ = some (.int .u64 k1)) (first | go_keep | simp [*, go_sem])
      (first
        | (go_at_call 32; refine (Q_any _ _).mono ?_; rintro e w1 ⟨rfl, hb1⟩; have h10 := below_kept hb1 h00; have h11 := below_kept hb1 h01)
        | (go_at_call 31; refine (put_any _ _ _ [] [(8, n)] (BytesAt.nil_ _) (FieldsAt.lit [(8, n)] (Blk.new _ _ _) HF.out (Nat.le_of_ble_eq_true rfl)) (Nat.zero_le _) (Nat.le_of_ble_eq_true rfl)).mono ?_; rintro e w2 ⟨A, c, H, rfl, hs, hp⟩; have hby := SlH.bytes0 hs hp; have h20 := below_keptA hp.below h10; have h21 := below_keptA hp.below h11)
        | (go_at_call 30; refine (sum_any _ _ _ _ [fieldBytes (8, n)] (PartsAt.one (Blk.new _ _ _) (BytesAt.under hby ((Below.refl _ _).alloc (Nat.le_refl _) _))) HFL.out).mono ?_; rintro e w3 ⟨rfl, hb3⟩; have h30 := below_keptA hb3 h20; have h31 := below_keptA hb3 h21))
    go_wp2_with fail
    go_meet
    refine ⟨by rw [drawn], ?_⟩
    exact below_next (below_next (((Below.refl _ _).alloc (Nat.le_refl _) _).drew.trans (hb1.mono (by simp))) (Nat.le_refl _) hp.below) (Nat.le_refl _) hb3
  case rest =>
    obtain ⟨rfl, hb⟩ := hcut
    go_wp2
    go_ret
    exact ⟨rfl, hb⟩

theorem u64_in {x : Int} (h : U64 x) : IntKind.u64.wrap x = x := by
  obtain ⟨h0, h1⟩ := h
  rw [IntKind.wrap_u64]
  omega
/-- A source's own block. -/
def srcH (g : Nat) (k0 k1 n : Int) : Nat × Obj := (g, .cells #[.int .u64 k0, .int .u64 k1, .int .u64 n] 69 (0, 0))
set_option maxHeartbeats 1000000 in
set_option maxRecDepth 100000 in
/-- The next number that a source draws: it lies at these three cells of a block. -/
theorem draw_any {W w : World} {g off : Nat} {t : TypeId} {cs : Array Value} {R : List (Nat × Obj)} (k0 k1 n : Int) (hp : Hp W w ((g, .cells cs t (0, 0)) :: R)) (h0 : cs[off]? = some (.int .u64 k0)) (h1 : cs[off + 1]? = some (.int .u64 k1)) (h2 : cs[off + 2]? = some (.int .u64 n)) (hn : 0 ≤ n) (hn2 : n < 18446744073709551615) :
    Calls Tryz.prog 27 #[.pointer (some ⟨g, off, none⟩)] w fun e w' => e = .returned (.int .u64 (drawn k0 k1 n)) ∧ Hp W w' ((g, .cells (cs.setIfInBounds (off + 2) (.int .u64 (n + 1))) t (0, 0)) :: R) := by
  have HP := Lib.hid hp
  have hc0 : w.cell? ⟨g, off, none⟩ = some (.int .u64 k0) := by rw [hp.head.cell, h0]
  have hc1 : w.cell? ⟨g, off + 1, none⟩ = some (.int .u64 k1) := by rw [hp.head.cell, h1]
  have hc2 : w.cell? ⟨g, off + 2, none⟩ = some (.int .u64 n) := by rw [hp.head.cell, h2]
  have hf := hp.head.frozen
  clear hp h0 h1 h2
  have e1 : IntKind.u64.wrap (n + 1) = n + 1 := u64_in ⟨by omega, by omega⟩
  have e2 : IntKind.u64.wrap (n + 1 - 1) = n := by rw [Int.add_sub_cancel]; exact u64_in ⟨by omega, by omega⟩
  go_enter Tryz.func27, Tryz.ntmps27
  go_wp2
  have hp1 := HP.out.set_ (off + 2) (.int .u64 (n + 1))
  have hd0 : (w.setCell ⟨g, off + 2, none⟩ (.int .u64 (n + 1))).cell? ⟨g, off, none⟩ = some (.int .u64 k0) := by rw [World.cell?_setCell_other _ _ _ _ (by simp)]; exact hc0
  have hd1 : (w.setCell ⟨g, off + 2, none⟩ (.int .u64 (n + 1))).cell? ⟨g, off + 1, none⟩ = some (.int .u64 k1) := by rw [World.cell?_setCell_other _ _ _ _ (by simp)]; exact hc1
  have hd2 : (w.setCell ⟨g, off + 2, none⟩ (.int .u64 (n + 1))).cell? ⟨g, off + 2, none⟩ = some (.int .u64 (n + 1)) := World.cell?_setCell_same _ _ _ hc2
  have HP1 := Lib.hid hp1
  clear hp1 hc0 hc1 hc2 hf
  generalize w.setCell ⟨g, off + 2, none⟩ (.int .u64 (n + 1)) = w1 at *
  have hun : U64 n := ⟨by omega, by omega⟩
  go_still_tail 9, (by kernel_rfl)
  change wpList _ _ _ _ _ w1.drew
  go_wp2_with ((refine (drawn_any _ k0 k1 n hun).mono ?_); rintro e w2 ⟨rfl, hb2⟩)
  go_ret
  exact ⟨rfl, HP1.out.drew.under hb2⟩
end Go.Proofs.YtnmpafcflfjhgaaGreat

/- A path's first segment. -/
import Derived.Test.YtnmpafcflfjhgaaGreatSeg3
namespace Go.Proofs.YtnmpafcflfjhgaaGreat
open Go.RowKit

/-- One option of a list that a statement builds. -/
theorem OptsIn.one {w0 w : World} {g : Nat} {t : TypeId} {k : UInt8} {u : Value} {l : List UInt8} (h : Blk w g t #[bval k, u]) (hu : BytesAt w0 u l) : OptsIn w0 w (.slice (some ⟨g, 0, none⟩) 1 1) [⟨k, l⟩] := by
  refine ⟨_, _, rfl, Nat.le_refl _, by unfold maxLen; omega, fun j hj => ⟨g, 0, u, rfl, ?_, ?_, ?_⟩⟩
  · obtain rfl : j = 0 := by simpa using hj
    rw [h.cell]
    rfl
  · obtain rfl : j = 0 := by simpa using hj
    rw [h.cell]
    rfl
  · obtain rfl : j = 0 := by simpa using hj
    exact hu
def helloSeg (lo re first : Int) : SegP := ⟨lo, re, first, 0, 1, [], []⟩
set_option maxHeartbeats 1000000 in
set_option maxRecDepth 10000 in
theorem flowHello_any (w : World) (f : Nat) (first lo re : Int) (k : UInt8) (B : Option Addr) (m d : Nat) (l : List UInt8) (h1 : w.cell? ⟨f, 1, none⟩ = some (.int .u32 first)) (h11 : w.cell? ⟨f, 11, none⟩ = some (.int .u16 lo)) (h12 : w.cell? ⟨f, 12, none⟩ = some (.int .u16 re)) (hb : BytesAt w (.slice B m d) l) :
    Calls Tryz.prog 99 #[.pointer (some ⟨f, 0, none⟩), .agg #[bval k, .slice B m d]] w fun e w' => ∃ A c, e = .returned (.agg (segCells (helloSeg lo re first) (.slice A 1 c) (.slice none 0 0))) ∧ OptsIn w w' (.slice A 1 c) [⟨k, l⟩] ∧ Below w.heap.size w w' := by
  have HA := Lib.hid (((Hp.refl w).alloc_at (.cells #[bval k, .slice B m d] 47 (0, 0)) rfl).alloc_at (n := w.heap.size + 1) (.cells #[.int .u16 0, .int .u16 0, .int .u32 0, .int .u32 0, .int .u8 0, .slice none 0 0, .slice none 0 0] 50 (0, 0)) (by simp))
  have hlf : f < w.heap.size := World.block_lt_of_cell? w _ h1
  have hl1 : f < w.heap.size + 1 := by omega
  have hl2 : f < w.heap.size + 1 + 1 := by omega
  have hl3 : f < w.heap.size + 2 := by omega
  have HB := Lib.hid hb
  clear hb
  unfold bval at *
  go_enter Tryz.func99, Tryz.ntmps99
  go_upto_region 1 with fail
  go_region_held3 (fun w' => w'.cell? ⟨f, 1, none⟩ = some (.int .u32 first) ∧ w'.cell? ⟨f, 11, none⟩ = some (.int .u16 lo) ∧ w'.cell? ⟨f, 12, none⟩ = some (.int .u16 re) ∧ w'.cell? ⟨w.heap.size, 0, none⟩ = some (.int .u8 k.toNat) ∧ w'.cell? ⟨w.heap.size, 1, none⟩ = some (.slice B m d)) (first | (simp [*, go_sem]; done) | (go_keep; done) | (refine ⟨?_, ?_, ?_, ?_, ?_⟩ <;> repeat (first | assumption | (simp; done) | rw [World.cell?_drew] | rw [World.cell?_alloc_lt _ _ _ (by (try simp) <;> omega)])))
    (first
      | (go_at_call 119; refine (of_any w _ (helloSeg lo re first) none none 0 0 0 0 _ [⟨k, l⟩] (OptsIn.one (Blk.new_at (g := w.heap.size + 1 + 1) _ _ (by simp)).drew HB.out) (Nat.le_of_ble_eq_true rfl)).mono ?_; rintro e w1 ⟨A, c, H1, rfl, ho, hp1⟩; (
          simp only [segCells, helloSeg]
          have hq1 := ((HA.out.skip _).drew.join hp1).behind2
          have hr1 := hq1.head.cell
          have hf1 := hq1.head.frozen
          have hk1 := hq1.tail.head.cell
          have hlt1 : f < w1.heap.size := Nat.lt_of_lt_of_le hlf hq1.below.size
          obtain ⟨hcc, hff⟩ := bcell hq1.below
          have HO := Lib.hid ho
          have HQ1 := Lib.hid hq1
          clear ho hp1 hq1)))
  go_wp2_with fail
  refine bodyPost_ret (v := .agg (segCells (helloSeg lo re first) (.slice A 1 c) (.slice none 0 0))) (by simp [results, Tryz.results99, go_sem, hr1, segCells, helloSeg]) rfl ⟨A, c, rfl, ?_⟩
  have e := ((((((HQ1.out.set_ 0 (.int .u16 lo)).set_ 1 (.int .u16 re)).set_ 2 (.int .u32 first)).set_ 3 (.int .u32 0)).set_ 4 (.int .u8 1)).set_ 5 (.slice A 1 c)).set_ 6 (.slice none 0 0)
  exact ⟨HO.out.at_ e.tail.tail, e.below⟩
end Go.Proofs.YtnmpafcflfjhgaaGreat

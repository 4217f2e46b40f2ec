/- Segments: how they lie in memory, how they are encoded. -/
import Derived.Test.YtnmpafcflfjhgaaGreatConn
namespace Go.Proofs.YtnmpafcflfjhgaaGreat
open Go.RowKit

theorem H_any (n : Int) (w : World) (h0 : 0 ≤ n) (h1 : n < 65536) : Calls Tryz.prog 189 #[.int .u16 n] w fun e w' => e = .returned (.agg #[.int .i64 2, .int .u64 n]) ∧ Below w.heap.size w w' := by
  go_enter Tryz.func189, Tryz.ntmps189
  go_wp2
  refine bodyPost_ret (v := .agg #[.int .i64 2, .int .u64 n]) (by simp [results, Tryz.results189, go_sem]) rfl ⟨rfl, ?_⟩
  exact (by repeat (first | exact Below.refl _ _ | assumption | (refine Below.alloc ?_ (by (try simp) <;> omega) _) | (refine Below.setCell ?_ (by (try simp) <;> omega) _) | refine Below.drew ?_))
theorem W_any (n : Int) (w : World) (h0 : 0 ≤ n) (h1 : n < 4294967296) : Calls Tryz.prog 135 #[.int .u32 n] w fun e w' => e = .returned (.agg #[.int .i64 4, .int .u64 n]) ∧ Below w.heap.size w w' := by
  go_enter Tryz.func135, Tryz.ntmps135
  go_wp2
  refine bodyPost_ret (v := .agg #[.int .i64 4, .int .u64 n]) (by simp [results, Tryz.results135, go_sem]) rfl ⟨rfl, ?_⟩
  exact (by repeat (first | exact Below.refl _ _ | assumption | (refine Below.alloc ?_ (by (try simp) <;> omega) _) | (refine Below.setCell ?_ (by (try simp) <;> omega) _) | refine Below.drew ?_))
theorem B_any (n : Int) (w : World) (h0 : 0 ≤ n) (h1 : n < 256) : Calls Tryz.prog 136 #[.int .u8 n] w fun e w' => e = .returned (.agg #[.int .i64 1, .int .u64 n]) ∧ Below w.heap.size w w' := by
  go_enter Tryz.func136, Tryz.ntmps136
  go_wp2
  refine bodyPost_ret (v := .agg #[.int .i64 1, .int .u64 n]) (by simp [results, Tryz.results136, go_sem]) rfl ⟨rfl, ?_⟩
  exact (by repeat (first | exact Below.refl _ _ | assumption | (refine Below.alloc ?_ (by (try simp) <;> omega) _) | (refine Below.setCell ?_ (by (try simp) <;> omega) _) | refine Below.drew ?_))
theorem Hp.rebase {w v w2 : World} {H : Hh} (h : Hp v w2 H) (hb : Below w.heap.size w v) : Hp w w2 H :=
  ⟨hb.trans (h.below.mono hb.size), h.nodup, fun p hp => ⟨Nat.le_trans hb.size (h.at_ p hp).1, (h.at_ p hp).2⟩⟩
structure OptP where
  kind : UInt8
  body : List UInt8
structure SegP where
  src : Int
  dst : Int
  seq : Int
  ack : Int
  flags : Int
  opts : List OptP
  data : List UInt8
def SegP.wf (s : SegP) : Prop := (0 ≤ s.src ∧ s.src < 65536) ∧ (0 ≤ s.dst ∧ s.dst < 65536) ∧ (0 ≤ s.seq ∧ s.seq < 4294967296) ∧ (0 ≤ s.ack ∧ s.ack < 4294967296) ∧ (0 ≤ s.flags ∧ s.flags < 256)
/-- Options that read in w, whose bodies were there in w0. -/
def OptsIn (w0 w : World) (v : Value) (os : List OptP) : Prop :=
  ∃ A c, v = .slice A os.length c ∧ os.length ≤ c ∧ c ≤ maxLen ∧ ∀ (k : Nat) (h : k < os.length), ∃ g off u, A = some ⟨g, off, none⟩ ∧ w.cell? ⟨g, off + k * 2, none⟩ = some (bval (os[k]'h).kind) ∧ w.cell? ⟨g, off + k * 2 + 1, none⟩ = some u ∧ BytesAt w0 u (os[k]'h).body
abbrev OptsAt (w : World) (v : Value) (os : List OptP) : Prop := OptsIn w w v os
def segCells (s : SegP) (ov dv : Value) : Array Value := #[.int .u16 s.src, .int .u16 s.dst, .int .u32 s.seq, .int .u32 s.ack, .int .u8 s.flags, ov, dv]
def header (s : SegP) : List UInt8 := [((2 : Int), s.src), (2, s.dst), (4, s.seq), (4, s.ack), (1, s.flags)].flatMap fieldBytes
theorem OptsIn.form {w0 w : World} {v : Value} {os : List OptP} (h : OptsIn w0 w v os) : ∃ A c, v = .slice A os.length c := by obtain ⟨A, c, h1, _⟩ := h; exact ⟨A, c, h1⟩
theorem BytesAt.form {w : World} {v : Value} {l : List UInt8} (h : BytesAt w v l) : ∃ A c, v = .slice A l.length c := by obtain ⟨A, c, h1, _⟩ := h; exact ⟨A, c, h1⟩

set_option maxHeartbeats 2000000 in
set_option maxRecDepth 100000 in
theorem header_any (w : World) (s : SegP) (hs : s.wf) (A B : Option Addr) (n c m d : Nat) : Calls Tryz.prog 154 #[.agg (segCells s (.slice A n c) (.slice B m d))] w fun e w' => ∃ A c H, e = .returned (.slice A (header s).length c) ∧ SlH 5 1 (.slice A (header s).length c) (header s).length ((header s).map bval) H ∧ Hp w w' H := by
  have HF : Hid (∀ f ∈ [((2 : Int), s.src), (2, s.dst), (4, s.seq), (4, s.ack), (1, s.flags)], U64 f.2) := Lib.hid (by
    obtain ⟨a, b, c, d, e⟩ := hs
    intro f hf
    simp only [List.mem_cons, List.not_mem_nil, or_false] at hf
    unfold U64
    rcases hf with rfl | rfl | rfl | rfl | rfl <;> simp only <;> omega)
  obtain ⟨⟨a0, a1⟩, ⟨b0, b1⟩, ⟨c0, c1⟩, ⟨d0, d1⟩, ⟨e0, e1⟩⟩ := hs
  unfold segCells
  go_enter Tryz.func154, Tryz.ntmps154
  go_upto_region 1 with fail
  go_cut [2] (fun s2 wx => ∃ A c H, s2 = .slice A (header s).length c ∧ SlH 5 1 (.slice A (header s).length c) (header s).length ((header s).map bval) H ∧ Hp w wx H)
  case first =>
    have hB0 : Below w.heap.size w (w.alloc (.cells #[.int .u16 s.src, .int .u16 s.dst, .int .u32 s.seq, .int .u32 s.ack, .int .u8 s.flags, .slice A n c, .slice B m d] 50)).drew := ((Below.refl _ _).alloc (Nat.le_refl _) _).drew
    go_region_held3 (fun w' => w'.cell? ⟨w.heap.size, 0, none⟩ = some (.int .u16 s.src) ∧ w'.cell? ⟨w.heap.size, 1, none⟩ = some (.int .u16 s.dst) ∧ w'.cell? ⟨w.heap.size, 2, none⟩ = some (.int .u32 s.seq) ∧ w'.cell? ⟨w.heap.size, 3, none⟩ = some (.int .u32 s.ack) ∧ w'.cell? ⟨w.heap.size, 4, none⟩ = some (.int .u8 s.flags)) (first | go_keep | simp [*, go_sem])
      (first
        | (go_at_call 189; refine (H_any _ _ (by assumption) (by assumption)).mono ?_; rintro e w1 ⟨rfl, hb1⟩; have hB1 : Below w.heap.size w w1 := Below.trans (by assumption) (hb1.mono (Nat.le_of_lt (by first | assumption | (simp; done)))); obtain ⟨hc1, hf1⟩ := bcell hb1; have hz1 : w.heap.size < w1.heap.size := Nat.lt_of_lt_of_le (by first | assumption | (simp; done)) hb1.size)
        | (go_at_call 135; refine (W_any _ _ (by assumption) (by assumption)).mono ?_; rintro e w1 ⟨rfl, hb1⟩; have hB1 : Below w.heap.size w w1 := Below.trans (by assumption) (hb1.mono (Nat.le_of_lt (by first | assumption | (simp; done)))); obtain ⟨hc1, hf1⟩ := bcell hb1; have hz1 : w.heap.size < w1.heap.size := Nat.lt_of_lt_of_le (by first | assumption | (simp; done)) hb1.size)
        | (go_at_call 136; refine (B_any _ _ (by assumption) (by assumption)).mono ?_; rintro e w1 ⟨rfl, hb1⟩; have hB1 : Below w.heap.size w w1 := Below.trans (by assumption) (hb1.mono (Nat.le_of_lt (by first | assumption | (simp; done)))); obtain ⟨hc1, hf1⟩ := bcell hb1; have hz1 : w.heap.size < w1.heap.size := Nat.lt_of_lt_of_le (by first | assumption | (simp; done)) hb1.size)
        | (go_at_call 31; refine (put_any _ _ _ [] [((2 : Int), s.src), (2, s.dst), (4, s.seq), (4, s.ack), (1, s.flags)] (BytesAt.nil_ _) (FieldsAt.lit [((2 : Int), s.src), (2, s.dst), (4, s.seq), (4, s.ack), (1, s.flags)] (Blk.new _ _ _) HF.out (Nat.le_of_ble_eq_true rfl)) (Nat.zero_le _) (Nat.le_of_ble_eq_true rfl)).mono ?_; rintro e w2 ⟨A1, c1', H1, rfl, hs1, hp1⟩; have hp2 : Hp w w2 H1 := hp1.rebase (Below.alloc (by assumption) (Nat.le_of_lt (by assumption)) _); obtain ⟨hc1, hf1⟩ := bcell hp1.below))
    go_wp2_with fail
    go_meet
    exact ⟨A1, c1', H1, rfl, hs1, hp2⟩
  case rest =>
    obtain ⟨A1, c1', H1, rfl, hs1, hp1⟩ := hcut
    have HS1 := Lib.hid hs1
    have HP1 := Lib.hid hp1
    clear hs1 hp1
    go_wp2
    go_ret
    exact ⟨A1, c1', H1, rfl, HS1.out, HP1.out⟩
end Go.Proofs.YtnmpafcflfjhgaaGreat

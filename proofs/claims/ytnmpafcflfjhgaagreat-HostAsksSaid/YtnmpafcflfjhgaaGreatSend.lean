/- A segment goes out: conn.send. -/
import Derived.Test.YtnmpafcflfjhgaaGreatSeg5
import Derived.Deep.RegionLaw
namespace Go.Proofs.YtnmpafcflfjhgaaGreat
open Go.RowKit

theorem info_pkt : (Tryz.prog.info? 54).map (fun i => (i.zero, i.size, i.bytes)) = some (some (.agg #[.int .i64 0, .slice none 0 0]), 2, 32) := by kernel_rfl
theorem und_pkts : Tryz.prog.underlying 39 = some (.slice 54) := by kernel_rfl
theorem IsPkts.form {I : Hh} {v : Value} {ps : List PktP} {H : Hh} (h : IsPkts I v ps H) : ∃ A c, v = .slice A ps.length c := by
  obtain ⟨us, h1, h2, _⟩ := h
  obtain ⟨A, c, e, _⟩ := h2.form
  exact ⟨A, c, e⟩
/-- A packet more. -/
theorem IsPkts.snoc {I I' : Hh} {us : List Value} {v : Value} {ps : List PktP} {H : Hh} {p : PktP} {u : Value} (hl : us.length = ps.length) (hb : ∀ (k : Nat) (h1 : k < us.length) (h2 : k < ps.length), BytesIn I (us[k]'h1) (ps[k]'h2).bytes) (hu : BytesIn I' u p.bytes)
    (hs : SlH 54 2 v (ps.length + 1) ((ps.zip us).flatMap pktCells ++ [.int .i64 p.path, u]) H) : IsPkts (I' ++ I) v (ps ++ [p]) H := by
  refine ⟨us ++ [u], by simp [hl], ?_, fun k h1 h2 => ?_⟩
  · rw [List.length_append, List.length_singleton, List.zip_append hl.symm, List.flatMap_append]
    simpa [pktCells] using hs
  · by_cases hk : k < ps.length
    · rw [List.getElem_append_left (by omega), List.getElem_append_left hk]
      exact (hb k (by omega) hk).mono fun q hq => by simp [hq]
    · have hk2 : k = ps.length := by simp at h2; omega
      subst hk2
      have e1 : (us ++ [u])[ps.length] = u := by rw [List.getElem_append_right (by omega)]; simp [hl]
      have e2 : (ps ++ [p])[ps.length] = p := by simp
      rw [e1, e2]
      exact hu.mono fun q hq => by simp [hq]
theorem Reads.lits {w : World} {B g : Nat} {t : TypeId} (size n : Nat) (xs : List Value) (hl : xs.length = n * size) (h : Blk w g t xs.toArray) (hB : g < B) : Reads w B size (some ⟨g, 0, none⟩) n xs :=
  ⟨hl, fun _ => ⟨_, rfl, hB, fun j u hu => by
    have e : (⟨g, 0, none⟩ : Addr).add j = ⟨g, j, none⟩ := by
      unfold Addr.add
      split
      · rename_i h0; subst h0; rfl
      · simp
    rw [e, h.cell]
    simpa using hu⟩⟩
theorem Hp.sendE {W w : World} {x : Nat × Obj} {E Hq R : Hh} (h : Hp W w (E ++ (x :: (Hq ++ R)))) : Hp W w (Hq ++ (x :: (E ++ R))) := h.perm (by classical (rw [List.perm_iff_count]; intro x; simp only [List.count_append, List.count_cons, List.count_nil]; omega))
set_option maxHeartbeats 2000000 in
set_option maxRecDepth 100000 in
theorem send_any (I : Hh) (W w0 w : World) (x f : Nat) (cs : Array Value) (pv : Value) (ps : List PktP) (Hq R : Hh) (path : Int) (s : SegP) (hs : s.ok) (A B : Option Addr) (c d : Nat)
    (hp : Hp W w ((x, .cells cs 146 (0, 0)) :: (Hq ++ R))) (h49 : cs[49]? = some pv) (hq : IsPkts I pv ps Hq) (hlen : ps.length ≤ 100000) (fc : Array Value) (hfm : (f, .cells fc 137 (0, 0)) ∈ R) (h10 : fc[10]? = some (.int .i64 path))
    (hw : Below w0.heap.size w0 w) (ho : OptsIn w0 w (.slice A s.opts.length c) s.opts) (hd : BytesAt w (.slice B s.data.length d) s.data) :
    Calls Tryz.prog 66 #[.pointer (some ⟨x, 0, none⟩), .pointer (some ⟨f, 0, none⟩), .agg (segCells s (.slice A s.opts.length c) (.slice B s.data.length d))] w fun e w' => e = .returned (.tuple #[]) ∧
      ∃ pv' Hq' E, IsPkts (E ++ I) pv' (ps ++ [⟨path, encode s⟩]) Hq' ∧ Hp W w' ((x, .cells (cs.setIfInBounds 49 pv') 146 (0, 0)) :: (Hq' ++ (E ++ R))) := by
  obtain ⟨i0, hi, hz0, hz1, hz2⟩ := info_parts info_pkt
  obtain ⟨us, hul, hsl, hub⟩ := hq
  obtain ⟨P, pc, rfl, _⟩ := hsl.form
  have hx0 : w.cell? ⟨x, 49, none⟩ = some (.slice P ps.length pc) := by rw [hp.head.cell, h49]
  have hf : w.cell? ⟨f, 10, none⟩ = some (.int .i64 path) := by rw [(hp.tail.right.mem hfm).cell, h10]
  have H49 := Lib.hid h49
  have H10 := Lib.hid h10
  have HFM := Lib.hid hfm
  have HS := Lib.hid hsl
  have HU := Lib.hid hub
  have HL := Lib.hid hul
  have HP := Lib.hid hp
  have hxw := hp.head.lt
  have hfw : f < w.heap.size := World.block_lt_of_cell? w _ hf
  have HEN := Lib.hid (fun w1 (hb : Below w.heap.size w w1) => encode_any w0 w1 s hs A B c d (hw.trans (hb.mono hw.size)) (ho.under hb) (hd.under hb))
  clear hs hp hsl hub hul hw ho hd h49 h10 hfm
  unfold segCells at *
  go_enter Tryz.func66, Tryz.ntmps66
  go_upto_region 3 with (go_at_call 121; refine (HEN.out _ ((Below.refl _ _).alloc (Nat.le_refl _) _)).mono ?_; rintro e w1 ⟨E1, ec, E, rfl, hse, hpe⟩; (
    have hp1 := (HP.out.skip _).join hpe
    have hB1 : Below w.heap.size w w1 := ((Below.refl _ _).alloc (Nat.le_refl _) _).trans (hpe.below.mono (by simp))
    have hx1 := below_kept hB1 hx0
    have hf1 := below_kept hB1 hf
    have hxl1 : x < w1.heap.size := Nat.lt_of_lt_of_le hxw hB1.size
    have hfl1 : f < w1.heap.size := Nat.lt_of_lt_of_le hfw hB1.size
    have HP1 := Lib.hid hp1.sendE
    have HE := Lib.hid hse.bytesIn
    clear hp1 hse hpe hB1 hx0 hf))
  generalize hel : (encode s).length = el at *
  clear HEN HP
  have hxl2 : x < w1.heap.size + 1 := by omega
  have hfl2 : f < w1.heap.size + 1 := by omega
  have HQD : Hid (Hp W ((w1.alloc (.cells #[.int .i64 path, .slice E1 el ec] 54)).drew) (Hq ++ ((x, .cells cs 146 (0, 0)) :: (E ++ R)))) := Lib.hid (HP1.out.skip _).drew
  have HRD : Hid (Reads ((w1.alloc (.cells #[.int .i64 path, .slice E1 el ec] 54)).drew) (w1.heap.size + 1) 2 (some ⟨w1.heap.size, 0, none⟩) 1 [.int .i64 path, .slice E1 el ec]) := Lib.hid (Reads.lits 2 1 _ rfl (Blk.new w1 _ _).drew (Nat.lt_succ_self _))
  have HOC : Hid (∀ u ∈ [Value.int .i64 path, .slice E1 el ec], u.oneCell' = true) := Lib.hid fun u hu => by
    simp only [List.mem_cons, List.not_mem_nil, or_false] at hu
    rcases hu with rfl | rfl <;> rfl
  have HM1 : Hid (ps.length + 1 ≤ maxLen) := by unfold Hid maxLen; omega
  have HM2 : Hid ((ps.length + 1) * 32 ≤ 140737488355328) := by unfold Hid; omega
  go_region_law ((refine step_append_H (W := W) (by rfl) _ _ 39 (by rfl) 54 i0 (.agg #[.int .i64 0, .slice none 0 0]) 2 32 und_pkts hi hz0 hz1 hz2 (by rfl) Nat.zero_lt_two (.slice P ps.length pc) ps.length ((ps.zip us).flatMap pktCells) Hq _ (by rfl) HS.out HQD.out (w1.heap.size + 1) (some ⟨w1.heap.size, 0, none⟩) 1 1 [.int .i64 path, .slice E1 el ec] (by rfl) HRD.out HOC.out HM1.out HM2.out ?_; intro A5 c5 w5 H5 hs5 hp5; have hk5 := hp5.right.head.cell 49; rw [H49.out] at hk5; have hg5 := hp5.right.head.frozen 49; have hff5 := (hp5.right.tail.right.mem HFM.out).cell 10; rw [H10.out] at hff5))
  all_goals (
    go_end0
    refine ⟨rfl, .slice A5 (ps.length + 1) c5, H5, E, IsPkts.snoc HL.out HU.out HE.out hs5, ?_⟩
    have h6 : Hp W w5 ((x, .cells cs 146 (0, 0)) :: (H5 ++ (E ++ R))) := hp5.perm (by classical (rw [List.perm_iff_count]; intro x; simp only [List.count_append, List.count_cons, List.count_nil]; omega))
    exact h6.set_ 49 _)
end Go.Proofs.YtnmpafcflfjhgaaGreat

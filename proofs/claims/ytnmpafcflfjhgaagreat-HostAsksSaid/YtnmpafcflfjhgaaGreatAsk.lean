/- A path's first segment: conn.hello, and a client's connection: conn.Ask. -/
import Derived.Test.YtnmpafcflfjhgaaGreatSend
import Derived.Test.YtnmpafcflfjhgaaGreatConn
namespace Go.Proofs.YtnmpafcflfjhgaaGreat
open Go.RowKit

/-- A client's first segment. -/
def askSeg (mine lo re first : Int) : SegP := ⟨lo, re, first, 0, 1, [⟨1, keyBody mine false 0⟩], []⟩
theorem askSeg_ok (mine lo re first : Int) (hlo : 0 ≤ lo ∧ lo < 65536) (hre : 0 ≤ re ∧ re < 65536) (hfi : 0 ≤ first ∧ first < 4294967296) : (askSeg mine lo re first).ok := by
  have hk := keyBody_len mine false 0
  refine ⟨⟨hlo, hre, hfi, ⟨by simp [askSeg], by simp [askSeg]⟩, ⟨by simp [askSeg], by simp [askSeg]⟩⟩, by simp [askSeg], ?_, ?_, by simp [askSeg]⟩
  · intro o ho
    simp only [askSeg, List.mem_singleton] at ho
    subst ho
    exact ⟨by simp, by simp only; omega⟩
  · simp only [askSeg, optLen, List.map_cons, List.map_nil, List.sum_cons, List.sum_nil]
    omega
set_option maxHeartbeats 2000000 in
set_option maxRecDepth 100000 in
theorem hello_first (I : Hh) (W w : World) (x f : Nat) (cs : Array Value) (pv : Value) (ps : List PktP) (Hq R : Hh) (path mine lo re first : Int) (hm : U64 mine) (hlo : 0 ≤ lo ∧ lo < 65536) (hre : 0 ≤ re ∧ re < 65536) (hfi : 0 ≤ first ∧ first < 4294967296)
    (hp : Hp W w ((x, .cells cs 146 (0, 0)) :: (Hq ++ R))) (h27 : cs[27]? = some (.int .u64 mine)) (h49 : cs[49]? = some pv) (hq : IsPkts I pv ps Hq) (hlen : ps.length ≤ 100000) (fc : Array Value) (hfm : (f, .cells fc 137 (0, 0)) ∈ R)
    (h1 : fc[1]? = some (.int .u32 first)) (h10 : fc[10]? = some (.int .i64 path)) (h11 : fc[11]? = some (.int .u16 lo)) (h12 : fc[12]? = some (.int .u16 re)) (h14 : fc[14]? = some (.bool true)) :
    Calls Tryz.prog 51 #[.pointer (some ⟨x, 0, none⟩), .pointer (some ⟨f, 0, none⟩)] w fun e w' => e = .returned (.tuple #[]) ∧
      ∃ pv' Hq' E, IsPkts (E ++ I) pv' (ps ++ [⟨path, encode (askSeg mine lo re first)⟩]) Hq' ∧ Hp W w' ((x, .cells (cs.setIfInBounds 49 pv') 146 (0, 0)) :: (Hq' ++ (E ++ R))) := by
  have hx0 : w.cell? ⟨x, 27, none⟩ = some (.int .u64 mine) := by rw [hp.head.cell, h27]
  have HF1 : Hid (∀ w1, Hp W w1 ((x, .cells cs 146 (0, 0)) :: (Hq ++ R)) → w1.cell? ⟨f, 1, none⟩ = some (.int .u32 first) ∧ w1.cell? ⟨f, 11, none⟩ = some (.int .u16 lo) ∧ w1.cell? ⟨f, 12, none⟩ = some (.int .u16 re) ∧ w1.cell? ⟨f, 14, none⟩ = some (.bool true)) := Lib.hid (fun w1 h => by
    have hb := h.tail.right.mem hfm
    exact ⟨by rw [hb.cell, h1], by rw [hb.cell, h11], by rw [hb.cell, h12], by rw [hb.cell, h14]⟩)
  have HP := Lib.hid hp
  have HM := Lib.hid hm
  have HSEND := Lib.hid (fun (w0 w1 : World) (A : Option Addr) (c : Nat) (hp : Hp W w1 ((x, .cells cs 146 (0, 0)) :: (Hq ++ R))) (hw : Below w0.heap.size w0 w1) (ho : OptsIn w0 w1 (.slice A 1 c) [⟨1, keyBody mine false 0⟩]) =>
    send_any I W w0 w1 x f cs pv ps Hq R path (askSeg mine lo re first) (askSeg_ok mine lo re first hlo hre hfi) A none c 0 hp h49 hq hlen fc hfm h10 hw ho (BytesAt.nil_ w1))
  clear hp hm h49 hq hlen hfm h1 h10 h11 h12 h14 h27 hlo hre hfi
  go_enter Tryz.func51, Tryz.ntmps51
  go_wp2_with (first
    | (go_at_call 66; refine (HSEND.out _ _ _ _ HP2.out hb2 HO2.out).mono ?_; rintro e w3 ⟨rfl, hr⟩; (
        have HR := Lib.hid hr
        clear hr))
    | (go_at_call 99; refine (flowHello_any _ f first lo re 1 A1 _ c1 (keyBody mine false 0) (below_kept hB2 hf1) (below_kept hB2 hf11) (below_kept hB2 hf12) (HB.out.under hB2)).mono ?_; rintro e w2 ⟨A2, c2, rfl, ho2, hb2⟩; (
        have HP2 := Lib.hid (HA.out.under hb2)
        have HO2 := Lib.hid ho2
        clear ho2))
    | (go_at_call 96; refine (keyOpt_any _ mine 0 false HM.out ⟨Int.le_refl _, by decide⟩).mono ?_; rintro e w1 ⟨A1, c1, H1, rfl, hs1, hp1⟩; (
        have hj := HP.out.join hp1
        obtain ⟨hf1, hf11, hf12, hf14⟩ := HF1.out _ hj.right
        have hfl : f < w1.heap.size := World.block_lt_of_cell? w1 _ hf1
        have hxl : x < w1.heap.size := hj.right.head.lt
        have HB := Lib.hid (hs1.bytes0 hp1)
        have HA := Lib.hid (hj.right.skip (.cells #[.int .u8 1, .slice A1 (keyBody mine false 0).length c1] 47 (0, 0)))
        have hB2 := (Below.refl w1.heap.size w1).alloc (Nat.le_refl _) (.cells #[.int .u8 1, .slice A1 (keyBody mine false 0).length c1] 47 (0, 0))
        generalize hkl : (keyBody mine false 0).length = kl at *
        clear hs1 hj hp1 HF1)))
  all_goals (go_end0; exact ⟨rfl, HR.out⟩)
/-- A client's connection, new. -/
def askP (c : Cfg) (mine path lo re first : Int) : ConnP :=
  { freshP c 1 mine path lo re with flows := [{ newFlow c 0 path lo re first with first := true }], post := [⟨path, encode (askSeg mine lo re first)⟩] }
theorem info_flowp : (Tryz.prog.info? 101).map (fun i => (i.zero, i.size, i.bytes)) = some (some (.pointer none), 1, 8) := by kernel_rfl
theorem und_flowps : Tryz.prog.underlying 138 = some (.slice 101) := by kernel_rfl
set_option maxHeartbeats 2000000 in
set_option maxRecDepth 100000 in
theorem ask_any (c : Cfg) (hc : c.right = true) (mine path lo re first : Int) (hm : U64 mine) (hlo : 0 ≤ lo ∧ lo < 65536) (hre : 0 ≤ re ∧ re < 65536) (hfi : 0 ≤ first ∧ first < 4294967296) (W w : World) (R : Hh) (hp : Hp W w R) :
    Calls Tryz.prog 28 #[.agg c.cells, .int .u64 mine, .agg #[.int .i64 path, .int .u16 lo, .int .u16 re], .int .u32 first] w fun e w' => ∃ x g H E, e = .returned (.pointer (some ⟨x, 0, none⟩)) ∧ IsConn E x [g] (askP c mine path lo re first) H ∧ Hp W w' (H ++ (E ++ R)) := by
  obtain ⟨i0, hi, hz0, hz1, hz2⟩ := info_parts info_flowp
  have HA := Lib.hid ((hp.alloc_at (.cells c.cells 24 (0, 0)) rfl).alloc_at (n := w.heap.size + 1) (.cells #[.int .i64 path, .int .u16 lo, .int .u16 re] 81 (0, 0)) (by simp))
  have HC := Lib.hid hc
  have HFI := Lib.hid hfi
  have HH := Lib.hid (fun (w4 : World) (x f : Nat) (cs : Array Value) (pv : Value) (Hq R : Hh) (hp : Hp W w4 ((x, .cells cs 146 (0, 0)) :: (Hq ++ R))) (h27 : cs[27]? = some (.int .u64 mine)) (h49 : cs[49]? = some pv) (hq : IsPkts [] pv [] Hq) (fc : Array Value) (hfm : (f, .cells fc 137 (0, 0)) ∈ R)
    (h1 : fc[1]? = some (.int .u32 first)) (h10 : fc[10]? = some (.int .i64 path)) (h11 : fc[11]? = some (.int .u16 lo)) (h12 : fc[12]? = some (.int .u16 re)) (h14 : fc[14]? = some (.bool true)) =>
    hello_first [] W w4 x f cs pv [] Hq R path mine lo re first hm hlo hre hfi hp h27 h49 hq (Nat.zero_le _) fc hfm h1 h10 h11 h12 h14)
  clear hp hc hm hlo hre hfi
  unfold Cfg.cells at HA
  unfold Cfg.cells
  go_enter Tryz.func28, Tryz.ntmps28
  go_upto_region 4 with (first
    | (go_at_call 50; refine (flowNew_any c HC.out 0 path lo re first HFI.out.1 HFI.out.2 W w1 _ HP1.out).mono ?_; rintro e w2 ⟨g, G, rfl, hg, hp2⟩; (
        obtain ⟨wn, sc, ch, rfl⟩ := hg
        have hp2b : Hp W w2 ((g, .cells ((newFlow c 0 path lo re first).cells wn sc ch) 137 (0, 0)) :: ([winH wn (newFlow c 0 path lo re first).win, scoreH sc (newFlow c 0 path lo re first).trust, bucketH ch (newFlow c 0 path lo re first).chal] ++ (Hx ++ (BX ++ R)))) := hp2
        have hg14 : w2.cell? ⟨g, 14, none⟩ = some (.bool false) := hp2b.head.cell 14
        have hgf := hp2b.head.frozen 14
        have hgl := hp2b.head.lt
        have HP2 : Hid (Hp W (w2.setCell ⟨g, 14, none⟩ (.bool true)) ((g, .cells (({ newFlow c 0 path lo re first with first := true } : FlowP).cells wn sc ch) 137 (0, 0)) :: ([winH wn (newFlow c 0 path lo re first).win, scoreH sc (newFlow c 0 path lo re first).trust, bucketH ch (newFlow c 0 path lo re first).chal] ++ (Hx ++ (BX ++ R))))) := Lib.hid (hp2b.set_ 14 (.bool true))
        clear hp2 hp2b HP1))
    | (go_at_call 49; refine (fresh_any c HC.out 1 mine path lo re W _ _ HA.out).mono ?_; rintro e w1 ⟨x, Hx, rfl, hi1, hp1⟩; (
        have hb2 := hp1.right.head.cell
        have hb1 := hp1.right.tail.head.cell
        have hl2 := hp1.right.head.lt
        have hl1 := hp1.right.tail.head.lt
        obtain ⟨BX, hpx⟩ : ∃ BX : Hh, Hp W w1 (Hx ++ (BX ++ R)) := ⟨[_, _], hp1⟩
        have HP1 := Lib.hid hpx
        have HI := Lib.hid (hi1 [])
        clear hi1 hp1 hpx HA)))
  obtain ⟨fv, Hf, HF, o, Ho, ii, Hi, vv, Hv, a, Ha, mv, Hm, pv, Hq, hsf, hfl, hO, hI, hV, hT, hM, hQ, rfl⟩ := HI.out
  cases hfl
  obtain ⟨F, fcap, rfl, _⟩ := (show SlH 101 1 fv 0 [] Hf from hsf).form
  generalize w2.setCell ⟨g, 14, none⟩ (.bool true) = w3 at *
  clear hg14 hgf hgl hb1 hb2 hl1 hl2 HI
  have hx3p : Hp W w3 (Hf ++ ((x, .cells ((freshP c 1 mine path lo re).c.cells (.slice F 0 fcap) o ii vv a mv pv) 146 (0, 0)) :: ((g, .cells (({ newFlow c 0 path lo re first with first := true } : FlowP).cells wn sc ch) 137 (0, 0)) :: ([winH wn (newFlow c 0 path lo re first).win, scoreH sc (newFlow c 0 path lo re first).trust, bucketH ch (newFlow c 0 path lo re first).chal] ++ (Ho ++ (Hi ++ (Hv ++ (Ha ++ (Hm ++ (Hq ++ (BX ++ R))))))))))) := HP2.out.perm (by classical (rw [List.perm_iff_count]; intro x; simp only [List.count_append, List.count_cons, List.count_nil]; omega))
  have hx0 : w3.cell? ⟨x, 33, none⟩ = some (.slice F 0 fcap) := hx3p.right.head.cell 33
  have hxl : x < w3.heap.size := hx3p.right.head.lt
  have HQD := Lib.hid (hx3p.skip (.cells #[.pointer (some ⟨g, 0, none⟩)] 101 (0, 0)))
  have HRD : Hid (Reads (w3.alloc (.cells #[.pointer (some ⟨g, 0, none⟩)] 101)) (w3.heap.size + 1) 1 (some ⟨w3.heap.size, 0, none⟩) 1 [.pointer (some ⟨g, 0, none⟩)]) := Lib.hid (Reads.lits 1 1 _ rfl (Blk.new w3 _ _) (Nat.lt_succ_self _))
  have HOC : Hid (∀ u ∈ [Value.pointer (some ⟨g, 0, none⟩)], u.oneCell' = true) := Lib.hid fun u hu => by
    rw [List.mem_singleton.1 hu]; rfl
  have HM1 : Hid (0 + 1 ≤ maxLen) := by unfold Hid maxLen; omega
  have HM2 : Hid ((0 + 1) * 8 ≤ 140737488355328) := by unfold Hid; omega
  have HS := Lib.hid hsf
  have HQ := Lib.hid hQ
  have HOO := Lib.hid (And.intro hO (And.intro hI (And.intro hV (And.intro hT hM))))
  have hxl2 : x < w3.heap.size + 1 := by omega
  clear hsf hO hI hV hT hM hQ hx3p HP2
  go_wp2_with (first
    | (go_at_call 51; refine (HH.out _ x g _ pv Hq _ HP6.out rfl rfl HQ.out _ (List.mem_cons_self ..) rfl rfl rfl rfl rfl).mono ?_; rintro e w7 ⟨rfl, hr⟩; (
        have HR := Lib.hid hr
        clear hr))
    | (at_builtin; refine wpList_append_H (W := W) rfl _ _ 138 rfl 101 i0 (.pointer none) 1 8 und_flowps hi hz0 hz1 hz2 rfl Nat.zero_lt_one (.slice F 0 fcap) 0 [] Hf _ rfl HS.out HQD.out (w3.heap.size + 1) (some ⟨w3.heap.size, 0, none⟩) 1 1 [.pointer (some ⟨g, 0, none⟩)] rfl HRD.out HOC.out HM1.out HM2.out (fun A5 c5 w5 H5 hs5 hp5 => ?c5); case' c5 => (
        have hk5 : w5.cell? ⟨x, 33, none⟩ = some (.slice F 0 fcap) := hp5.right.head.cell 33
        have hg5 := hp5.right.head.frozen 33
        have hxl5 := hp5.right.head.lt
        have hp6 : Hp W w5 ((x, .cells ((freshP c 1 mine path lo re).c.cells (.slice F 0 fcap) o ii vv a mv pv) 146 (0, 0)) :: (Hq ++ ((g, .cells (({ newFlow c 0 path lo re first with first := true } : FlowP).cells wn sc ch) 137 (0, 0)) :: ([winH wn (newFlow c 0 path lo re first).win, scoreH sc (newFlow c 0 path lo re first).trust, bucketH ch (newFlow c 0 path lo re first).chal] ++ (H5 ++ (Ho ++ (Hi ++ (Hv ++ (Ha ++ (Hm ++ (BX ++ R))))))))))) := hp5.perm (by classical (rw [List.perm_iff_count]; intro x; simp only [List.count_append, List.count_cons, List.count_nil]; omega))
        have HP6 : Hid (Hp W (w5.setCell ⟨x, 33, none⟩ (.slice A5 1 c5)) ((x, .cells ((freshP c 1 mine path lo re).c.cells (.slice A5 1 c5) o ii vv a mv pv) 146 (0, 0)) :: (Hq ++ ((g, .cells (({ newFlow c 0 path lo re first with first := true } : FlowP).cells wn sc ch) 137 (0, 0)) :: ([winH wn (newFlow c 0 path lo re first).win, scoreH sc (newFlow c 0 path lo re first).trust, bucketH ch (newFlow c 0 path lo re first).chal] ++ (H5 ++ (Ho ++ (Hi ++ (Hv ++ (Ha ++ (Hm ++ (BX ++ R)))))))))))) := Lib.hid (hp6.set_ 33 (.slice A5 1 c5))
        have HS5 : Hid (SlH 101 1 (.slice A5 1 c5) 1 [.pointer (some ⟨g, 0, none⟩)] H5) := Lib.hid hs5
        clear hp5 hp6 hs5)))
  obtain ⟨pv7, Hq7, E7, hq7, hp7⟩ := HR.out
  obtain ⟨hO, hI, hV, hT, hM⟩ := HOO.out
  go_ret
  refine ⟨x, g, (x, .cells ((freshP c 1 mine path lo re).c.cells (.slice A5 1 c5) o ii vv a mv pv7) 146 (0, 0)) :: (H5 ++ (([(g, .cells (({ newFlow c 0 path lo re first with first := true } : FlowP).cells wn sc ch) 137 (0, 0)), winH wn (newFlow c 0 path lo re first).win, scoreH sc (newFlow c 0 path lo re first).trust, bucketH ch (newFlow c 0 path lo re first).chal] ++ []) ++ (Ho ++ (Hi ++ (Hv ++ (Ha ++ (Hm ++ Hq7))))))), E7, rfl, ?_, ?_⟩
  · exact ⟨_, H5, _, o, Ho, ii, Hi, vv, Hv, a, Ha, mv, Hm, pv7, Hq7, HS5.out, IsFlows.cons ⟨wn, sc, ch, rfl⟩ IsFlows.nil, hO, hI, hV, hT, hM, (show IsPkts E7 pv7 [⟨path, encode (askSeg mine lo re first)⟩] Hq7 by simpa using hq7), rfl⟩
  · have hp8 : Hp W w7 ((x, .cells ((freshP c 1 mine path lo re).c.cells (.slice A5 1 c5) o ii vv a mv pv7) 146 (0, 0)) :: (Hq7 ++ (E7 ++ ((g, .cells (({ newFlow c 0 path lo re first with first := true } : FlowP).cells wn sc ch) 137 (0, 0)) :: ([winH wn (newFlow c 0 path lo re first).win, scoreH sc (newFlow c 0 path lo re first).trust, bucketH ch (newFlow c 0 path lo re first).chal] ++ (H5 ++ (Ho ++ (Hi ++ (Hv ++ (Ha ++ (Hm ++ (BX ++ R)))))))))))) := hp7
    generalize winH wn (newFlow c 0 path lo re first).win = b1 at *
    generalize scoreH sc (newFlow c 0 path lo re first).trust = b2 at *
    generalize bucketH ch (newFlow c 0 path lo re first).chal = b3 at *
    have hp9 : Hp W w7 (BX ++ (((x, .cells ((freshP c 1 mine path lo re).c.cells (.slice A5 1 c5) o ii vv a mv pv7) 146 (0, 0)) :: (H5 ++ (([(g, .cells (({ newFlow c 0 path lo re first with first := true } : FlowP).cells wn sc ch) 137 (0, 0)), b1, b2, b3] ++ []) ++ (Ho ++ (Hi ++ (Hv ++ (Ha ++ (Hm ++ Hq7)))))))) ++ (E7 ++ R))) := hp8.perm (by classical (rw [List.perm_iff_count]; intro x; simp only [List.count_append, List.count_cons, List.count_nil]; omega))
    exact hp9.right
end Go.Proofs.YtnmpafcflfjhgaaGreat

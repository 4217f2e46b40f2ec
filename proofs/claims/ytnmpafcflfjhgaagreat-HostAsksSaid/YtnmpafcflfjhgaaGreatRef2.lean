/- The document's answer: a segment's bytes (broughamref07.Encode). -/
import Derived.Test.YtnmpafcflfjhgaaGreatRef
namespace Go.Proofs.YtnmpafcflfjhgaaGreat
open Go.RowKit

theorem fieldBytes_one (n : Int) : fieldBytes ((1 : Int), n) = [byteOf n] := by
  have h1 : fieldBytes (((0 + 1 : Nat) : Int), n) = fieldBytes (((0 : Nat) : Int), n / 256) ++ [byteOf n] := fieldBytes_succ 0 (by omega) n
  rw [fieldBytes_zero] at h1
  exact h1
set_option maxHeartbeats 2000000 in
set_option maxRecDepth 10000 in
theorem refEncode_any (w0 w : World) (s : SegP) (hs : s.ok) (A B : Option Addr) (c d : Nat) (hw : Below w0.heap.size w0 w) (ho : OptsIn w0 w (.slice A s.opts.length c) s.opts) (hd : BytesAt w (.slice B s.data.length d) s.data) :
    Calls Tryz.prog 14 #[.agg (segCells s (.slice A s.opts.length c) (.slice B s.data.length d))] w fun e w' => ∃ A c H, e = .returned (.tuple #[.slice A (encode s).length c, .int .i64 0]) ∧ SlB (.slice A (encode s).length c) (encode s) H ∧ Hp w w' H := by
  have hright := fun w1 (h : OptsIn w0 w1 (.slice A s.opts.length c) s.opts) => refRight_ok w0 w1 s hs A B c d h
  have HRT := Lib.hid hright
  have HOK := Lib.hid hs
  have HO := Lib.hid ho
  have HD := Lib.hid hd
  have HW := Lib.hid hw
  have HA := Lib.hid ((Hp.refl w).alloc_at (.cells (segCells s (.slice A s.opts.length c) (.slice B s.data.length d)) 50 (0, 0)) rfl)
  clear hright hs ho hd hw
  unfold segCells at *
  go_enter Tryz.func14, Tryz.ntmps14
  go_wp2_with (go_at_call 34; refine (HRT.out _ (HO.out.under ((Below.refl _ _).alloc (Nat.le_refl _) _))).mono ?_; rintro e w1 ⟨rfl, hb1⟩; (
    have hq1 := HA.out.under hb1
    have hc1 := hq1.head.cell
    have HQ1 := Lib.hid hq1
    clear hq1 hb1))
  have hok := HOK.out
  obtain ⟨hwf, hfl, hop, hol, hda⟩ := hok
  have hfew := opts_few s.opts
  have hol2 : s.opts.length ≤ 200 := by omega
  have HOP := Lib.hid hop
  have HOL := Lib.hid hol
  have HDA := Lib.hid hda
  have HWF := Lib.hid hwf
  clear hop hol hfew hwf hfl hda
  obtain ⟨A', c', hv, _, _, hx⟩ := HO.out
  injection hv with hA hn hc
  subst hA; subst hc
  have HX := Lib.hid hx
  clear hx hn
  go_loopw [5, 6] (fun v i wr => ∃ (k : Nat) (A1 : Option Addr) (n1 c1 : Nat) (H1 : Hh), k ≤ s.opts.length ∧ i = .int .i64 k ∧ v = .slice A1 n1 c1 ∧ n1 ≤ 200 ∧ SlB (.slice A1 n1 c1) (optBytes (s.opts.take k)) H1 ∧ Hp w wr (H1 ++ [(w.heap.size, .cells #[.int .u16 s.src, .int .u16 s.dst, .int .u32 s.seq, .int .u32 s.ack, .int .u8 s.flags, .slice A s.opts.length c, .slice B s.data.length d] 50 (0, 0))])) (fun _ i _ => s.opts.length - (intOf i).toNat)
  case atStart => exact ⟨0, none, 0, 0, [], Nat.zero_le _, rfl, rfl, Nat.zero_le _, SlB.nil_, HQ1.out⟩
  case round =>
    obtain ⟨k, A1, n1, c1, H1, hk, rfl, rfl, hn1, hs1, hp1⟩ := hrel
    have HS1 := Lib.hid hs1
    have HP1 := Lib.hid hp1
    have hb := hp1.below
    have hlen : Hid ((optBytes (s.opts.take k)).length ≤ 200) := by
      unfold Hid
      rw [optBytes_len]
      have := optLen_le s.opts k
      have := HOL.out
      omega
    have hcw := (hp1_mem hp1).cell
    have hlw : w.heap.size < wr.heap.size := (hp1_mem hp1).lt
    clear hs1 hp1
    by_cases hlt : k < s.opts.length
    · obtain ⟨g, off, u, rfl, hc1, hc2, hc3⟩ := HX.out k hlt
      obtain ⟨hk0, hb255⟩ := HOP.out s.opts[k] (List.getElem_mem hlt)
      obtain ⟨A9, c9, e9⟩ := hc3.form
      have hby := hc3.under HW.out
      rw [e9] at hc2 hby
      have hd1 : wr.cell? ⟨g, off + k * 2, none⟩ = some (.int .u8 s.opts[k].kind.toNat) := (under_cell hb g (off + k * 2) (by rw [hc1]; rfl)).trans hc1
      have hd2 : wr.cell? ⟨g, off + k * 2 + 1, none⟩ = some (.slice A9 s.opts[k].body.length c9) := (under_cell hb g (off + k * 2 + 1) (by rw [hc2]; rfl)).trans hc2
      have hz2 := World.block_lt_of_cell? wr _ hd2
      have HC2 := Lib.hid hc2
      have HSN := Lib.hid (optBytes_snoc s.opts k hlt)
      have hlen2 : Hid ((optBytes (s.opts.take (k + 1))).length ≤ 200) := by
        unfold Hid
        rw [optBytes_len]
        have := optLen_le s.opts (k + 1)
        have := HOL.out
        omega
      have HBY := Lib.hid hby
      have HLEN := hlen
      have HB := Lib.hid hb
      clear hc1 hc2 hc3 e9 hb hby hlen
      generalize hpre : optBytes (s.opts.take k) = pre at *
      generalize s.opts[k] = o at *
      obtain ⟨kd, bd⟩ := o
      simp only at *
      have hkn : (k : Int) < (s.opts.length : Int) := by omega
      have hbl : (bd.length : Int) ≤ 255 := by omega
      have HLI : Hid (#[.int .u8 kd.toNat, .int .u8 (IntKind.u8.wrap bd.length)] = ([kd, byteOf (bd.length : Int)].map bval).toArray) := Lib.hid (by
        have h2 : bval (byteOf (bd.length : Int)) = .int .u8 bd.length := by rw [bval_byteOf]; congr 1; omega
        rw [show IntKind.u8.wrap (bd.length : Int) = bd.length from by rw [IntKind.wrap_u8]; omega]
        show #[.int .u8 (kd.toNat : Int), .int .u8 (bd.length : Int)] = #[bval kd, bval (byteOf (bd.length : Int))]
        rw [h2, bval])
      have HL1 : Hid (pre.length + [kd, byteOf (bd.length : Int)].length ≤ 1000000) := Lib.hid (by have := HLEN.out; simp only [List.length_cons, List.length_nil]; omega)
      have HL2 : Hid ((pre ++ [kd, byteOf (bd.length : Int)]).length + bd.length ≤ 1000000) := Lib.hid (by have := HLEN.out; simp only [List.length_append, List.length_cons, List.length_nil]; omega)
      clear hpre
      go_upto_region 8 with fail
      go_cut [5] (fun s5 wx => ∃ A3 n3 c3 H3, s5 = .slice A3 n3 c3 ∧ Hid (SlB (.slice A3 n3 c3) (pre ++ [kd, byteOf (bd.length : Int)]) H3) ∧ Hid (Hp w wx (H3 ++ [(w.heap.size, .cells #[.int .u16 s.src, .int .u16 s.dst, .int .u32 s.seq, .int .u32 s.ack, .int .u8 s.flags, .slice (some ⟨g, off, none⟩) s.opts.length c, .slice B s.data.length d] 50 (0, 0))])))
      case first =>
        go_region_law (refine step_append_B (W := w) (by rfl) _ _ (by rfl) (.slice A1 n1 c1) (.slice (some ⟨wr.heap.size, 0, none⟩) 2 2) pre [kd, byteOf (bd.length : Int)] H1 _ (by rfl) (by rfl) HS1.out (HP1.out.drew.skip _) (BytesAt.lit [kd, byteOf (bd.length : Int)] (Blk.new _ _ _) HLI.out (Nat.le_of_ble_eq_true rfl)) HL1.out ?_; intro A3 n3 c3 w3 H3 HN3 hs3 hp3)
        all_goals (go_wp2_with fail; go_meet; exact ⟨A3, n3, c3, H3, rfl, Lib.hid hs3, Lib.hid hp3⟩)
      case rest =>
        obtain ⟨A3, n3, c3, H3, rfl, HS3, HP3⟩ := hcut
        have hb3 := HP3.out.below
        have hcw3 := (hp1_mem HP3.out).cell
        have hlw3 := (hp1_mem HP3.out).lt
        have hd3 : wc.cell? ⟨g, off + k * 2 + 1, none⟩ = some (.slice A9 bd.length c9) := (under_cell hb3 g (off + k * 2 + 1) (by rw [HC2.out]; rfl)).trans HC2.out
        have hz3 := World.block_lt_of_cell? wc _ hd3
        have HB3 := Lib.hid hb3
        clear hb3 hd1 hd2 hcw hlw hz2
        go_wp2_with (at_builtin; refine wpList_append_B (W := w) rfl _ _ rfl (.slice A3 n3 c3) (.slice A9 bd.length c9) (pre ++ [kd, byteOf (bd.length : Int)]) bd H3 _ rfl rfl HS3.out HP3.out (HBY.out.under HB3.out) HL2.out (fun A4 n4 c4 w4 H4 HN4 hs4 hp4 => ?d5))
        go_roundw
        case rel =>
          refine ⟨k + 1, A4, n4, c4, H4, by omega, by go_num, rfl, ?_, ?_, hp4⟩
          · rw [HN4.out, ← HSN.out]; exact hlen2.out
          · rw [HSN.out]; exact hs4
        case measure => simp [intOf]; omega
    · have HK : Hid (k = s.opts.length) := Lib.hid (by omega)
      have HT : Hid (s.opts.take k = s.opts) := Lib.hid (by rw [HK.out, List.take_length])
      have HS1' : Hid (SlB (.slice A1 n1 c1) (optBytes s.opts) H1) := Lib.hid (by have e := HS1.out; rw [HT.out] at e; exact e)
      have HN1 : Hid (n1 = (optBytes s.opts).length) := Lib.hid (by obtain ⟨_, _, e⟩ := HS1'.out.form; injection e)
      have HL1 : Hid ((optBytes s.opts).length ≤ 200) := Lib.hid (by have := hlen.out; rw [HT.out] at this; exact this)
      have HB := Lib.hid hb
      have HHL : Hid ((header s).length ≤ 40) := Lib.hid (header_len s)
      clear HS1 hlen hb
      generalize hob : optBytes s.opts = ob at *
      have HOB := Lib.hid hob
      clear hob
      have HLI : Hid (#[.int .u8 n1] = ([byteOf (ob.length : Int)].map bval).toArray) := Lib.hid (by
        have h1 := HN1.out
        have h2 : bval (byteOf (ob.length : Int)) = .int .u8 n1 := by rw [bval_byteOf]; congr 1; omega
        simp only [List.map_cons, List.map_nil, h2])
      have HM1 : Hid ((header s).length + [byteOf (ob.length : Int)].length ≤ 1000000) := Lib.hid (by have := HHL.out; simp only [List.length_singleton]; omega)
      have HM2 : Hid ((header s ++ [byteOf (ob.length : Int)]).length + ob.length ≤ 1000000) := Lib.hid (by have := HHL.out; have := HL1.out; simp only [List.length_append, List.length_singleton]; omega)
      have HM3 : Hid ((header s ++ [byteOf (ob.length : Int)] ++ ob).length + s.data.length ≤ 1000000) := Lib.hid (by have := HHL.out; have := HL1.out; have := HDA.out; simp only [List.length_append, List.length_singleton]; omega)
      go_upto_region 11 with (first
        | (at_builtin; refine wpList_append_B (W := w) rfl _ _ rfl v2 (.slice (some ⟨w2.heap.size, 0, none⟩) 1 1) (header s) [byteOf (ob.length : Int)] H2 _ rfl rfl HS2.out (HP2.out.skip _) (BytesAt.lit [byteOf (ob.length : Int)] (Blk.new _ _ _) HLI.out (Nat.le_of_ble_eq_true rfl)) HM1.out (fun A3 n3 c3 w3 H3 HN3 hs3 hp3 => ?d3); case' d3 => (
            have hcw3 := (hp1_mem hp3.right).cell
            have hlw3 := (hp1_mem hp3.right).lt
            have HS3 := Lib.hid hs3
            have HP3 := Lib.hid hp3
            clear hs3 hp3 hcw hlw))
        | (go_at_call 35; refine (refHeader_any s HWF.out A B _ c _ d w _ _ HP1.out).mono ?_; rintro e w2 ⟨v2, H2, rfl, hs2, hp2⟩; (
            have HS2 := Lib.hid hs2
            have HP2 := Lib.hid hp2
            clear hs2 hp2)))
      have HBO := Lib.hid (HS1'.out.at_ HP3.out.right.drew)
      have HQ3 := Lib.hid HP3.out.drew
      go_region_law (first
        | (refine step_append_B (W := w) (by rfl) _ _ (by rfl) (.slice A5 n5 c5) (.slice B s.data.length d) (header s ++ [byteOf (ob.length : Int)] ++ ob) s.data H5 _ (by rfl) (by rfl) HS5.out HP5.out (HD.out.under HP5.out.below) HM3.out ?_; intro A6 n6 c6 w6 H6 HN6 hs6 hp6; have hcw6 := (hp1_mem hp6.right).cell)
        | (refine step_append_B (W := w) (by rfl) _ _ (by rfl) (.slice A3 n3 c3) (.slice A1 n1 c1) (header s ++ [byteOf (ob.length : Int)]) ob H3 _ (by rfl) (by rfl) HS3.out HQ3.out HBO.out HM2.out ?_; intro A5 n5 c5 w5 H5 HN5 hs5 hp5; have hcw5 := (hp1_mem hp5.right).cell; have hlw5 := (hp1_mem hp5.right).lt; have HS5 := Lib.hid hs5; have HP5 := Lib.hid hp5; clear hs5 hp5))
      all_goals
        go_wp2_with fail
        go_ret2
        have hE : encode s = header s ++ [byteOf (ob.length : Int)] ++ ob ++ s.data := by unfold encode; rw [HOB.out, fieldBytes_one]
        have hN : n6 = (encode s).length := by rw [hE]; exact HN6.out
        subst hN
        exact ⟨A6, c6, H6, rfl, by rw [hE] at *; exact hs6, hp6.left⟩
end Go.Proofs.YtnmpafcflfjhgaaGreat

/- The document's answer: how numbers and segments are laid down (broughamref02.Put, broughamref08.Key, broughamref07.Encode). -/
import Derived.Test.YtnmpafcflfjhgaaGreatBytes
namespace Go.Proofs.YtnmpafcflfjhgaaGreat
open Go.RowKit

theorem fieldBytes_zero (n : Int) : fieldBytes (((0 : Nat) : Int), n) = [] := fieldBytes_out (by simp)
theorem fieldBytes_succ (k : Nat) (hk : k + 1 ≤ 8) (n : Int) : fieldBytes (((k + 1 : Nat) : Int), n) = fieldBytes ((k : Int), n / 256) ++ [byteOf n] := by
  rw [fieldBytes_in (by simp only; omega) (by simp only; omega)]
  rcases Nat.eq_zero_or_pos k with rfl | h0
  · rw [show fieldBytes (((0 : Nat) : Int), n / 256) = [] from fieldBytes_zero _]
    simp
  · rw [fieldBytes_in (by simp only; omega) (by simp only; omega)]
    simp only [Int.toNat_natCast]
    rw [List.range_succ, List.map_append]
    congr 1
    · refine List.map_congr_left fun i hi => ?_
      have hi2 : i < k := by simpa using hi
      have e : 8 * (k + 1 - 1 - i) = 8 + 8 * (k - 1 - i) := by omega
      rw [e, Int.pow_add]
      rw [show ((2 : Int) ^ 8) = 256 from rfl]
      rw [Int.ediv_ediv_of_nonneg (by omega)]
    · simp
set_option maxHeartbeats 1000000 in
set_option maxRecDepth 10000 in
theorem refPut_any (k : Nat) (hk : k ≤ 8) (n : Int) (hn : U64 n) (W w : World) (v : Value) (l : List UInt8) (H R : Hh) (hs : SlB v l H) (hp : Hp W w (H ++ R)) (hl : l.length ≤ 100000) :
    Calls Tryz.prog 33 #[v, .int .u64 n, .int .i64 k] w fun e w' => ∃ v' H', e = .returned v' ∧ SlB v' (l ++ fieldBytes ((k : Int), n)) H' ∧ Hp W w' (H' ++ R) := by
  induction k generalizing n w with
  | zero =>
    have HS := Lib.hid hs
    have HP := Lib.hid hp
    clear hs hp
    go_enter Tryz.func33, Tryz.ntmps33
    go_wp2
    go_ret
    exact ⟨_, H, rfl, by rw [fieldBytes_zero, List.append_nil]; exact HS.out, HP.out⟩
  | succ k ih =>
    obtain ⟨hn0, hn1⟩ := hn
    have h1 : 1 ≤ ((k + 1 : Nat) : Int) := by omega
    have h8 : ((k + 1 : Nat) : Int) ≤ 8 := by omega
    have e1 : ((k + 1 : Nat) : Int) - 1 = k := by omega
    have HI := Lib.hid (ih (by omega) (n / 256) ⟨by omega, by omega⟩ w hp)
    have HE := Lib.hid (fieldBytes_succ k (by omega) n)
    have hb : bval (byteOf n) = .int .u8 (n % 256) := bval_byteOf n
    have HB := Lib.hid hb
    have HF := Lib.hid (show (fieldBytes ((k : Int), n / 256)).length ≤ 8 from fieldBytes_len _)
    generalize ((k + 1 : Nat) : Int) = k1 at *
    clear ih hs hp hb
    go_enter Tryz.func33, Tryz.ntmps33
    go_wp2_with (first
      | (at_builtin; refine wpList_append_B (W := W) rfl _ _ rfl v1 (.slice (some ⟨w1.heap.size, 0, none⟩) 1 1) (l ++ fieldBytes ((k : Int), n / 256)) [byteOf n] H1 R rfl rfl HS1.out (HP1.out.skip _) (BytesAt.lit [byteOf n] (Blk.new _ _ _) ?d1 (Nat.le_of_ble_eq_true rfl)) ?d2 (fun A' n' c' w2 H2 HN2 hs2 hp2 => ?d3))
      | (go_at_call 33; refine HI.out.mono ?_; rintro e w1 ⟨v1, H1, rfl, hs1, hp1⟩; (have HS1 := Lib.hid hs1; have HP1 := Lib.hid hp1; clear hs1 hp1)))
    case d1 => simp [HB.out]
    case d2 => rw [List.length_append]; have := HF.out; simp only [List.length_singleton]; omega
    go_ret
    refine ⟨_, H2, rfl, ?_, hp2⟩
    rw [HE.out, ← List.append_assoc]
    exact hs2
/-- A body of a handshake's option. -/
theorem refKey_any (k : Int) (hk : U64 k) (W w : World) (R : Hh) (hp : Hp W w R) :
    Calls Tryz.prog 13 #[.int .u64 k, .int .u64 0, .bool false] w fun e w' => ∃ v' H', e = .returned v' ∧ SlB v' (keyBody k false 0) H' ∧ Hp W w' (H' ++ R) := by
  have HC := Lib.hid (refPut_any 8 (Nat.le_refl _) k hk W w (.slice none 0 0) [] [] R SlB.nil_ hp (Nat.zero_le _))
  clear hp
  go_enter Tryz.func13, Tryz.ntmps13
  go_wp2_with (go_at_call 33; refine HC.out.mono ?_; rintro e w1 ⟨v1, H1, rfl, hs1, hp1⟩; (have HS1 := Lib.hid hs1; have HP1 := Lib.hid hp1; clear hs1 hp1))
  go_ret
  exact ⟨v1, H1, rfl, by simpa [keyBody] using HS1.out, HP1.out⟩
set_option maxHeartbeats 1000000 in
set_option maxRecDepth 10000 in
theorem refHeader_any (s : SegP) (hs : s.wf) (A B : Option Addr) (n c m d : Nat) (W w : World) (R : Hh) (hp : Hp W w R) :
    Calls Tryz.prog 35 #[.agg (segCells s (.slice A n c) (.slice B m d))] w fun e w' => ∃ v' H', e = .returned v' ∧ SlB v' (header s) H' ∧ Hp W w' (H' ++ R) := by
  obtain ⟨⟨a0, a1⟩, ⟨b0, b1⟩, ⟨c0, c1⟩, ⟨d0, d1⟩, ⟨e0, e1⟩⟩ := hs
  have HA := Lib.hid (hp.alloc_at (.cells (segCells s (.slice A n c) (.slice B m d)) 50 (0, 0)) rfl)
  clear hp
  have HL : Hid (∀ (l : List UInt8) f, l.length ≤ 90000 → (l ++ fieldBytes f).length ≤ l.length + 8) := Lib.hid fun l f _ => by have := fieldBytes_len f; rw [List.length_append]; omega
  have HB : Hid (bval (byteOf s.flags) = .int .u8 s.flags) := Lib.hid (by rw [bval_byteOf]; congr 1; omega)
  have HE : Hid (header s = fieldBytes (2, s.src) ++ fieldBytes (2, s.dst) ++ fieldBytes (4, s.seq) ++ fieldBytes (4, s.ack) ++ [byteOf s.flags]) := Lib.hid (by
    have h1 : fieldBytes (((0 + 1 : Nat) : Int), s.flags) = fieldBytes (((0 : Nat) : Int), s.flags / 256) ++ [byteOf s.flags] := fieldBytes_succ 0 (by omega) s.flags
    rw [fieldBytes_zero] at h1
    have h2 : fieldBytes ((1 : Int), s.flags) = [byteOf s.flags] := h1
    simp [header, h2])
  have HD2 : Hid (∀ l : List UInt8, l.length ≤ 32 → l.length + [byteOf s.flags].length ≤ 1000000) := Lib.hid fun l h => by simp only [List.length_singleton]; omega
  unfold segCells at *
  go_enter Tryz.func35, Tryz.ntmps35
  go_wp2_with (first
    | (at_builtin; refine wpList_append_B (W := W) rfl _ _ rfl v4 (.slice (some ⟨w4.heap.size, 0, none⟩) 1 1) _ [byteOf s.flags] H4 _ rfl rfl HS4.out (HP4.out.skip _) (BytesAt.lit [byteOf s.flags] (Blk.new _ _ _) ?d1 (Nat.le_of_ble_eq_true rfl)) ?d2 (fun A' n' c' w5 H5 HN5 hs5 hp5 => ?d3))
    | (go_at_call 33; refine (refPut_any 4 (Nat.le_of_ble_eq_true rfl) s.ack ⟨d0, by omega⟩ W w3 v3 _ H3 _ HS3.out HP3.out HL3.out).mono ?_; rintro e w4 ⟨v4, H4, rfl, hs4, hp4⟩; (
        have hq4 := hp4.right.head.cell
        have HL4 := Lib.hid (show (([] ++ fieldBytes (2, s.src)) ++ fieldBytes (2, s.dst) ++ fieldBytes (4, s.seq) ++ fieldBytes (4, s.ack)).length ≤ 32 from by have h1 := fieldBytes_len ((2 : Int), s.src); have h2 := fieldBytes_len ((2 : Int), s.dst); have h3 := fieldBytes_len ((4 : Int), s.seq); have h4 := fieldBytes_len ((4 : Int), s.ack); simp only [List.length_append, List.length_nil]; omega)
        have HS4 := Lib.hid hs4
        have HP4 := Lib.hid hp4
        clear hs4 hp4))
    | (go_at_call 33; refine (refPut_any 4 (Nat.le_of_ble_eq_true rfl) s.seq ⟨c0, by omega⟩ W w2 v2 _ H2 _ HS2.out HP2.out HL2.out).mono ?_; rintro e w3 ⟨v3, H3, rfl, hs3, hp3⟩; (
        have hq3 := hp3.right.head.cell
        have HL3 := Lib.hid (show (([] ++ fieldBytes (2, s.src)) ++ fieldBytes (2, s.dst) ++ fieldBytes (4, s.seq)).length ≤ 100000 from by have h1 := fieldBytes_len ((2 : Int), s.src); have h2 := fieldBytes_len ((2 : Int), s.dst); have h3 := fieldBytes_len ((4 : Int), s.seq); simp only [List.length_append, List.length_nil]; omega)
        have HS3 := Lib.hid hs3
        have HP3 := Lib.hid hp3
        clear hs3 hp3))
    | (go_at_call 33; refine (refPut_any 2 (Nat.le_of_ble_eq_true rfl) s.dst ⟨b0, by omega⟩ W w1 v1 _ H1 _ HS1.out HP1.out HL1.out).mono ?_; rintro e w2 ⟨v2, H2, rfl, hs2, hp2⟩; (
        have hq2 := hp2.right.head.cell
        have HL2 := Lib.hid (show (([] ++ fieldBytes (2, s.src)) ++ fieldBytes (2, s.dst)).length ≤ 100000 from by have h1 := fieldBytes_len ((2 : Int), s.src); have h2 := fieldBytes_len ((2 : Int), s.dst); simp only [List.length_append, List.length_nil]; omega)
        have HS2 := Lib.hid hs2
        have HP2 := Lib.hid hp2
        clear hs2 hp2))
    | (go_at_call 33; refine (refPut_any 2 (Nat.le_of_ble_eq_true rfl) s.src ⟨a0, by omega⟩ W _ (.slice none 0 0) [] [] _ SlB.nil_ HA.out (Nat.zero_le _)).mono ?_; rintro e w1 ⟨v1, H1, rfl, hs1, hp1⟩; (
        have hq1 := hp1.right.head.cell
        have HL1 := Lib.hid (show ([] ++ fieldBytes (2, s.src)).length ≤ 100000 from by have h1 := fieldBytes_len ((2 : Int), s.src); simp only [List.length_append, List.length_nil]; omega)
        have HS1 := Lib.hid hs1
        have HP1 := Lib.hid hp1
        clear hs1 hp1)))
  case d1 => simp [HB.out]
  case d2 => exact HD2.out _ HL4.out
  go_ret
  refine ⟨_, H5, rfl, ?_, (List.perm_middle.symm : List.Perm ((w.heap.size, _) :: (H5 ++ R)) _) |> fun q => (hp5.perm q.symm).tail⟩
  rw [HE.out]
  simpa using hs5
set_option maxHeartbeats 1000000 in
set_option maxRecDepth 10000 in
theorem refRight_ok (w0 w : World) (s : SegP) (hs : s.ok) (A B : Option Addr) (c d : Nat) (ho : OptsIn w0 w (.slice A s.opts.length c) s.opts) :
    Calls Tryz.prog 34 #[.agg (segCells s (.slice A s.opts.length c) (.slice B s.data.length d))] w fun e w' => e = .returned (.int .i64 0) ∧ Below w.heap.size w w' := by
  obtain ⟨hwf, hfl, hop, hol, hda⟩ := hs
  obtain ⟨A', c', hv, h1, h2, hx⟩ := ho
  injection hv with hA hn hc
  subst hA; subst hc
  have hfew := opts_few s.opts
  have hol2 : s.opts.length ≤ 200 := by omega
  obtain ⟨_, _, _, _, ⟨e0, e1⟩⟩ := hwf
  have HA := Lib.hid ((Hp.refl w).alloc_at (.cells (segCells s (.slice A s.opts.length c) (.slice B s.data.length d)) 50 (0, 0)) rfl)
  have HX := Lib.hid hx
  have HOP := Lib.hid hop
  have HOL := Lib.hid hol
  clear hx hop hol hfew
  generalize hL : s.opts = os at *
  generalize hD : s.data.length = dl at *
  clear hL hD
  unfold segCells at *
  go_enter Tryz.func34, Tryz.ntmps34
  go_wp2
  go_loopw [3, 4] (fun n i wr => ∃ k : Nat, k ≤ os.length ∧ i = .int .i64 k ∧ n = .int .i64 (optLen (os.take k)) ∧ Hp w wr [(w.heap.size, .cells #[.int .u16 s.src, .int .u16 s.dst, .int .u32 s.seq, .int .u32 s.ack, .int .u8 s.flags, .slice A os.length c, .slice B dl d] 50 (0, 0))]) (fun _ i _ => os.length - (intOf i).toNat)
  case atStart => exact ⟨0, Nat.zero_le _, rfl, rfl, HA.out⟩
  case round =>
    obtain ⟨k, hk, rfl, rfl, hpr⟩ := hrel
    have HPR := Lib.hid hpr
    have hcs := hpr.head.cell
    have hb := hpr.below
    have hlr : w.heap.size < wr.heap.size := hpr.head.lt
    clear hpr
    by_cases hlt : k < os.length
    · obtain ⟨g, off, u, rfl, hc1, hc2, hc3⟩ := HX.out k hlt
      obtain ⟨hk0, hb255⟩ := HOP.out os[k] (List.getElem_mem hlt)
      obtain ⟨A9, c9, e9⟩ := hc3.form
      rw [e9] at hc2
      have hd1 : wr.cell? ⟨g, off + k * 2, none⟩ = some (.int .u8 os[k].kind.toNat) := (under_cell hb g (off + k * 2) (by rw [hc1]; rfl)).trans hc1
      have hd2 : wr.cell? ⟨g, off + k * 2 + 1, none⟩ = some (.slice A9 os[k].body.length c9) := (under_cell hb g (off + k * 2 + 1) (by rw [hc2]; rfl)).trans hc2
      have HSN := Lib.hid (optLen_snoc os k hlt)
      have hle1 := optLen_le os (k + 1)
      have hle2 := optLen_le os k
      rw [optLen_snoc os k hlt] at hle1
      have hol3 := HOL.out
      have hT : optLen (os.take k) + (2 + os[k].body.length) ≤ 200 := by omega
      have hkn : (k : Int) < (os.length : Int) := by omega
      clear hc1 hc2 hc3 e9 hb hle1 hle2 hol3
      generalize optLen (os.take k) = t at *
      generalize os[k] = o at *
      obtain ⟨kd, bd⟩ := o
      simp only at *
      generalize bd.length = bl at *
      have hkz : ((kd.toNat : Int) == 0) = false := by simp; omega
      have hkz2 : ¬ ((kd.toNat : Int) = 0) := by omega
      go_wp2
      go_roundw
      case rel => exact ⟨k + 1, by omega, by go_num, by rw [HSN.out]; simp, HPR.out⟩
      case measure => simp [intOf]; omega
    · have HK : Hid (k = os.length) := Lib.hid (by omega)
      have hol4 := HOL.out
      have hle3 := optLen_le os k
      have hT2 : optLen (os.take k) ≤ 200 := by omega
      generalize optLen (os.take k) = t at *
      clear hol4 hle3
      go_wp2
      go_ret
      exact ⟨rfl, hb⟩
end Go.Proofs.YtnmpafcflfjhgaaGreat

/- Whether a segment may be: those that may. -/
import Derived.Test.YtnmpafcflfjhgaaGreatSeg4
namespace Go.Proofs.YtnmpafcflfjhgaaGreat
open Go.RowKit

theorem OptsIn.under {w0 w w' : World} {v : Value} {os : List OptP} (h : OptsIn w0 w v os) (hb : Below w.heap.size w w') : OptsIn w0 w' v os := by
  obtain ⟨A, c, h1, h2, h3, hx⟩ := h
  refine ⟨A, c, h1, h2, h3, fun k hk => ?_⟩
  obtain ⟨g, off, u, a1, a2, a3, a4⟩ := hx k hk
  exact ⟨g, off, u, a1, (under_cell hb g _ (by rw [a2]; rfl)).trans a2, (under_cell hb g _ (by rw [a3]; rfl)).trans a3, a4⟩
theorem Reads.lit {w : World} {B g : Nat} {t : TypeId} (xs : List Value) (h : Blk w g t xs.toArray) (hB : g < B) : Reads w B 1 (some ⟨g, 0, none⟩) xs.length xs :=
  ⟨by simp, fun _ => ⟨_, rfl, hB, fun j u hu => by
    have e : (⟨g, 0, none⟩ : Addr).add j = ⟨g, j, none⟩ := by
      unfold Addr.add
      split
      · rename_i h0; subst h0; rfl
      · simp
    rw [e, h.cell]
    simpa using hu⟩⟩
theorem bytes_one (l : List UInt8) : ∀ u ∈ l.map bval, u.oneCell' = true := fun u hu => by
  obtain ⟨b, _, rfl⟩ := List.mem_map.1 hu
  rfl
theorem hp1_mem {W w : World} {H : Hh} {g : Nat} {cs : Array Value} {t : TypeId} (h : Hp W w (H ++ [(g, .cells cs t (0, 0))])) : Blk w g t cs := h.mem (by simp)
theorem HP4_drop {W w : World} {H : Hh} {a b c : Nat × Obj} (h : Hp W w (H ++ (a :: b :: [c]))) : Hp W w (H ++ [c]) := (h.perm (H' := a :: b :: (H ++ [c])) (by classical (rw [List.perm_iff_count]; intro x; simp only [List.count_append, List.count_cons, List.count_nil]; omega))).tail.tail
/-- append onto an owned slice, in a region that draws. -/
theorem step_append_H {P : Program} {W w : World} {ops : Array Oper} {o : Oper} {a : Act} {K : Act → World → Prop} {Q : Exit → Act → World → Prop} {E : Prop} (hgd : o.guard = none) (s x : Operand) (t : TypeId)
    (ho : o.op = .call { callee := .builtin .append, args := #[s, x], argTypes := #[t, t] })
    (e : TypeId) (i : TypeInfo) (z : Value) (size bytes : Nat) (ht : P.underlying t = some (.slice e)) (hi : P.info? e = some i) (hz : i.zero = some z)
    (hsize : i.size = size) (hby : i.bytes = bytes) (hzs : z.cells.size = size) (hsz : 0 < size)
    (v : Value) (n : Nat) (xs : List Value) (H R : List (Nat × Obj)) (hs : a.eval s = v) (hsl : SlH e size v n xs H) (hp : Hp W w (H ++ R))
    (B : Nat) (A : Option Addr) (m c : Nat) (news : List Value) (hx : a.eval x = .slice A m c) (hr : Reads w B size A m news) (h1 : ∀ u ∈ news, u.oneCell' = true)
    (h63 : n + m ≤ maxLen) (hbytes : (n + m) * bytes ≤ 140737488355328)
    (h : ∀ A' c' w' H', SlH e size (.slice A' (n + m) c') (n + m) (xs ++ news) H' → Hp W w' (H' ++ R) → K (a.put o.dst (.slice A' (n + m) c')) w') : if Region.wanted o (yielded ops a.tmps) = true then Oper.wp P o a w K Q else E :=
  step_append_any w hgd s x t ho W.heap.size e i z size bytes ht hi hz hsize hby hzs hsz v n xs hs (hsl.own hp) B A m c news hx hr h1 h63 hbytes hp.size fun v' w' h2 h3 h4 => by
    obtain ⟨H', h5, h6⟩ := hp.append hsl h2 h3 h4
    obtain ⟨A', c', rfl, _⟩ := h5.form
    exact h A' c' w' H' h5 h6
def optLen (os : List OptP) : Nat := (os.map fun o => 2 + o.body.length).sum
theorem optLen_snoc (os : List OptP) (k : Nat) (h : k < os.length) : optLen (os.take (k + 1)) = optLen (os.take k) + (2 + os[k].body.length) := by
  unfold optLen
  rw [List.take_succ_eq_append_getElem h, List.map_append, List.sum_append]
  simp
theorem optLen_le (os : List OptP) (k : Nat) : optLen (os.take k) ≤ optLen os := by
  induction os generalizing k with
  | nil => simp [optLen]
  | cons o os ih =>
    cases k with
    | zero => simp [optLen]
    | succ k => have := ih k; simp only [optLen, List.take_succ_cons, List.map_cons, List.sum_cons] at *; omega
/-- May a segment be? -/
def SegP.ok (s : SegP) : Prop := s.wf ∧ s.flags ≤ 7 ∧ (∀ o ∈ s.opts, o.kind.toNat ≠ 0 ∧ o.body.length ≤ 255) ∧ optLen s.opts ≤ 200 ∧ s.data.length ≤ 1024
theorem opts_few (os : List OptP) : os.length ≤ optLen os := by
  induction os with
  | nil => simp [optLen]
  | cons o os ih => simp only [optLen, List.map_cons, List.sum_cons, List.length_cons] at *; omega
set_option maxHeartbeats 1000000 in
set_option maxRecDepth 10000 in
theorem right_ok (w0 w : World) (s : SegP) (hs : s.ok) (A B : Option Addr) (c d : Nat) (ho : OptsIn w0 w (.slice A s.opts.length c) s.opts) :
    Calls Tryz.prog 153 #[.agg (segCells s (.slice A s.opts.length c) (.slice B s.data.length d))] w fun e w' => e = .returned (.int .i64 0) ∧ Below w.heap.size w w' := by
  obtain ⟨hwf, hfl, hop, hol, hda⟩ := hs
  obtain ⟨A', c', hv, h1, h2, hx⟩ := ho
  injection hv with hA hn hc
  subst hA; subst hc
  have hfew := opts_few s.opts
  have hol2 : s.opts.length ≤ 200 := by omega
  obtain ⟨_, _, _, _, ⟨e0, e1⟩⟩ := hwf
  have HA := Lib.hid ((Hp.refl w).alloc_at (.cells (segCells s (.slice A s.opts.length c) (.slice B s.data.length d)) 50 (0, 0)) rfl)
  have HX := Lib.hid hx
  have HOP := Lib.hid hop
  have HOL := Lib.hid hol
  clear hx hop hol hfew
  generalize hL : s.opts = os at *
  generalize hD : s.data.length = dl at *
  clear hL hD
  unfold segCells at *
  go_enter Tryz.func153, Tryz.ntmps153
  go_wp2
  go_loopw [3, 12] (fun n i wr => ∃ k : Nat, k ≤ os.length ∧ i = .int .i64 k ∧ n = .int .i64 (optLen (os.take k)) ∧ Hp w wr [(w.heap.size, .cells #[.int .u16 s.src, .int .u16 s.dst, .int .u32 s.seq, .int .u32 s.ack, .int .u8 s.flags, .slice A os.length c, .slice B dl d] 50 (0, 0))]) (fun _ i _ => os.length - (intOf i).toNat)
  case atStart => exact ⟨0, Nat.zero_le _, rfl, rfl, HA.out⟩
  case round =>
    obtain ⟨k, hk, rfl, rfl, hpr⟩ := hrel
    have HPR := Lib.hid hpr
    have hcs := hpr.head.cell
    have hb := hpr.below
    have hlr : w.heap.size < wr.heap.size := hpr.head.lt
    clear hpr
    by_cases hlt : k < os.length
    · obtain ⟨g, off, u, rfl, hc1, hc2, hc3⟩ := HX.out k hlt
      obtain ⟨hk0, hb255⟩ := HOP.out os[k] (List.getElem_mem hlt)
      obtain ⟨A9, c9, e9⟩ := hc3.form
      rw [e9] at hc2
      have hd1 : wr.cell? ⟨g, off + k * 2, none⟩ = some (.int .u8 os[k].kind.toNat) := (under_cell hb g (off + k * 2) (by rw [hc1]; rfl)).trans hc1
      have hd2 : wr.cell? ⟨g, off + k * 2 + 1, none⟩ = some (.slice A9 os[k].body.length c9) := (under_cell hb g (off + k * 2 + 1) (by rw [hc2]; rfl)).trans hc2
      have HSN := Lib.hid (optLen_snoc os k hlt)
      have hle1 := optLen_le os (k + 1)
      have hle2 := optLen_le os k
      rw [optLen_snoc os k hlt] at hle1
      have hol3 := HOL.out
      have hT : optLen (os.take k) + (2 + os[k].body.length) ≤ 200 := by omega
      clear hc1 hc2 hc3 e9 hb hle1 hle2 hol3
      generalize optLen (os.take k) = t at *
      generalize os[k] = o at *
      obtain ⟨kd, bd⟩ := o
      simp only at *
      generalize bd.length = bl at *
      have hkz : ((kd.toNat : Int) == 0) = false := by simp; omega
      have hkz2 : ¬ ((kd.toNat : Int) = 0) := by omega
      go_wp2
      go_roundw
      case rel => exact ⟨k + 1, by omega, by go_num, by rw [HSN.out]; simp, HPR.out.skip _⟩
      case measure => simp [intOf]; omega
    · go_wp2
      go_ret
      exact ⟨rfl, hb⟩
/-- The bytes of options. -/
def optBytes (os : List OptP) : List UInt8 := os.flatMap fun o => o.kind :: byteOf o.body.length :: o.body
theorem optBytes_snoc (os : List OptP) (k : Nat) (h : k < os.length) : optBytes (os.take (k + 1)) = optBytes (os.take k) ++ [os[k].kind, byteOf os[k].body.length] ++ os[k].body := by
  unfold optBytes
  rw [flatMap_snoc _ _ _ h]
  simp
theorem optBytes_len (os : List OptP) : (optBytes os).length = optLen os := by
  induction os with
  | nil => rfl
  | cons o os ih => simp only [optBytes, optLen, List.flatMap_cons, List.length_append, List.map_cons, List.sum_cons, List.length_cons] at *; omega
/-- A segment's bytes. -/
def encode (s : SegP) : List UInt8 := header s ++ fieldBytes (1, (optBytes s.opts).length) ++ optBytes s.opts ++ s.data
theorem header_len (s : SegP) : (header s).length ≤ 40 := by
  have h1 := fieldBytes_len ((2 : Int), s.src)
  have h2 := fieldBytes_len ((2 : Int), s.dst)
  have h3 := fieldBytes_len ((4 : Int), s.seq)
  have h4 := fieldBytes_len ((4 : Int), s.ack)
  have h5 := fieldBytes_len ((1 : Int), s.flags)
  simp only [header, List.flatMap_cons, List.flatMap_nil, List.length_append, List.length_nil]
  omega
set_option maxHeartbeats 2000000 in
set_option maxRecDepth 10000 in
theorem encode_any (w0 w : World) (s : SegP) (hs : s.ok) (A B : Option Addr) (c d : Nat) (hw : Below w0.heap.size w0 w) (ho : OptsIn w0 w (.slice A s.opts.length c) s.opts) (hd : BytesAt w (.slice B s.data.length d) s.data) :
    Calls Tryz.prog 121 #[.agg (segCells s (.slice A s.opts.length c) (.slice B s.data.length d))] w fun e w' => ∃ A c H, e = .returned (.tuple #[.slice A (encode s).length c, .int .i64 0]) ∧ SlH 5 1 (.slice A (encode s).length c) (encode s).length ((encode s).map bval) H ∧ Hp w w' H := by
  obtain ⟨i0, hi, hz0, hz1, hz2⟩ := info_parts info_byte
  have hright := fun w1 (h : OptsIn w0 w1 (.slice A s.opts.length c) s.opts) => right_ok w0 w1 s hs A B c d h
  have HRT := Lib.hid hright
  have HOK := Lib.hid hs
  have HO := Lib.hid ho
  have HD := Lib.hid hd
  have HW := Lib.hid hw
  have HA := Lib.hid ((Hp.refl w).alloc_at (.cells (segCells s (.slice A s.opts.length c) (.slice B s.data.length d)) 50 (0, 0)) rfl)
  clear hright hs ho hd hw
  unfold segCells at *
  go_enter Tryz.func121, Tryz.ntmps121
  go_wp2_with (go_at_call 153; refine (HRT.out _ (HO.out.under ((Below.refl _ _).alloc (Nat.le_refl _) _))).mono ?_; rintro e w1 ⟨rfl, hb1⟩; (
    have hq1 := HA.out.under hb1
    have hc1 := hq1.head.cell
    have HQ1 := Lib.hid hq1
    clear hq1 hb1))
  have hok := HOK.out
  obtain ⟨hwf, hfl, hop, hol, hda⟩ := hok
  have hfew := opts_few s.opts
  have hol2 : s.opts.length ≤ 200 := by omega
  have HOP := Lib.hid hop
  have HOL := Lib.hid hol
  clear hop hol hfew hwf hfl
  obtain ⟨A', c', hv, _, _, hx⟩ := HO.out
  injection hv with hA hn hc
  subst hA; subst hc
  have HX := Lib.hid hx
  clear hx hn
  go_loopw [5, 17] (fun v i wr => ∃ (k : Nat) (A1 : Option Addr) (c1 : Nat) (H1 : Hh), k ≤ s.opts.length ∧ i = .int .i64 k ∧ v = .slice A1 (optBytes (s.opts.take k)).length c1 ∧ SlH 5 1 (.slice A1 (optBytes (s.opts.take k)).length c1) (optBytes (s.opts.take k)).length ((optBytes (s.opts.take k)).map bval) H1 ∧ Hp w wr (H1 ++ [(w.heap.size, .cells #[.int .u16 s.src, .int .u16 s.dst, .int .u32 s.seq, .int .u32 s.ack, .int .u8 s.flags, .slice A s.opts.length c, .slice B s.data.length d] 50 (0, 0))])) (fun _ i _ => s.opts.length - (intOf i).toNat)
  case atStart => exact ⟨0, none, 0, [], Nat.zero_le _, rfl, rfl, SlH.nil_ _ _, HQ1.out⟩
  case round =>
    obtain ⟨k, A1, c1, H1, hk, rfl, rfl, hs1, hp1⟩ := hrel
    have HS1 := Lib.hid hs1
    have HP1 := Lib.hid hp1
    have hb := hp1.below
    have hlen : Hid ((optBytes (s.opts.take k)).length ≤ 200) := by
      unfold Hid
      rw [optBytes_len]
      have := optLen_le s.opts k
      have := HOL.out
      omega
    clear hs1 hp1
    by_cases hlt : k < s.opts.length
    · obtain ⟨g, off, u, rfl, hc1, hc2, hc3⟩ := HX.out k hlt
      obtain ⟨hk0, hb255⟩ := HOP.out s.opts[k] (List.getElem_mem hlt)
      obtain ⟨A9, c9, e9⟩ := hc3.form
      have hby := hc3.under HW.out
      rw [e9] at hc2 hby
      have hd1 : wr.cell? ⟨g, off + k * 2, none⟩ = some (.int .u8 s.opts[k].kind.toNat) := (under_cell hb g (off + k * 2) (by rw [hc1]; rfl)).trans hc1
      have hd2 : wr.cell? ⟨g, off + k * 2 + 1, none⟩ = some (.slice A9 s.opts[k].body.length c9) := (under_cell hb g (off + k * 2 + 1) (by rw [hc2]; rfl)).trans hc2
      have HSN := Lib.hid (optBytes_snoc s.opts k hlt)
      have HBY := Lib.hid hby
      have HLEN := hlen
      clear hc1 hc2 hc3 e9 hb hby hlen
      generalize hpre : optBytes (s.opts.take k) = pre at *
      generalize s.opts[k] = o at *
      obtain ⟨kd, bd⟩ := o
      simp only at *
      have hpl : pre.length ≤ 200 := HLEN.out
      have hkn : (k : Int) < (s.opts.length : Int) := by omega
      have HK : Hid (bval (byteOf (bd.length : Int)) = .int .u8 bd.length) := by
        unfold Hid
        rw [bval_byteOf]
        congr 1
        omega
      have hbl : (bd.length : Int) ≤ 255 := by omega
      clear hpre
      go_wp2_with (first
        | (at_builtin; refine wpList_append_H (W := w) rfl _ _ 44 rfl 5 i0 (.int .u8 0) 1 1 und_bytes hi hz0 hz1 hz2 rfl (by decide) _ _ _ H3 _ rfl HS3.out HP3.out w3.heap.size A9 bd.length c9 (bd.map bval) rfl ?d1 (bytes_one bd) ?d3 ?d4 (fun A4 c4 w4 H4 hs4 hp4 => ?d5))
        | (at_builtin; refine wpList_append_H (W := w) rfl _ _ 44 rfl 5 i0 (.int .u8 0) 1 1 und_bytes hi hz0 hz1 hz2 rfl (by decide) _ _ _ H1 ((wr.heap.size + 1, .cells #[bval kd, bval (byteOf (bd.length : Int))] 5 (0, 0)) :: (wr.heap.size, .cells #[bval kd, .slice A9 bd.length c9] 47 (0, 0)) :: [(w.heap.size, .cells #[.int .u16 s.src, .int .u16 s.dst, .int .u32 s.seq, .int .u32 s.ack, .int .u8 s.flags, .slice (some ⟨g, off, none⟩) s.opts.length c, .slice B s.data.length d] 50 (0, 0))]) rfl HS1.out ?c0 (wr.heap.size + 2) _ 2 2 [bval kd, bval (byteOf (bd.length : Int))] rfl ?c1 ?c2 ?c3 ?c4 (fun A3 c3 w3 H3 hs3 hp3 => ?c5); case' c5 => (
            have hm3 : Blk w3 wr.heap.size 47 #[bval kd, .slice A9 bd.length c9] := hp3.mem (by simp)
            have hc3 := hm3.cell
            have HS3 := Lib.hid hs3
            have HP3 := Lib.hid hp3
            clear hs3 hp3 hm3)))
      case d1 =>
        exact BytesAt.reads (HBY.out.under HP3.out.below)
      case d3 => unfold maxLen; omega
      case d4 => omega
      case c0 =>
        rw [HK.out]
        simp only [bval]
        exact ((HP1.out.alloc_at _ rfl).alloc_at (n := wr.heap.size + 1) _ (by simp)).perm (by classical (rw [List.perm_iff_count]; intro x; simp only [List.count_append, List.count_cons, List.count_nil]; omega))
      case c1 =>
        rw [HK.out]
        exact Reads.lit [bval kd, .int .u8 bd.length] (Blk.new_at _ _ (by simp)) (by omega)
      case c2 => exact bytes_one [kd, byteOf (bd.length : Int)]
      case c3 => unfold maxLen; omega
      case c4 => omega
      go_roundw
      case rel =>
        have hl : (optBytes (s.opts.take (k + 1))).length = pre.length + 2 + bd.length := by
          rw [HSN.out]
          simp only [List.length_append, List.length_cons, List.length_nil]
        refine ⟨k + 1, A4, c4, H4, by omega, by go_num, by rw [hl], ?_, (HP4_drop hp4)⟩
        rw [hl, HSN.out, List.map_append, List.map_append]
        exact hs4
      case measure => simp [intOf]; omega
    · have HK : Hid (k = s.opts.length) := Lib.hid (by omega)
      have hT : s.opts.take k = s.opts := by rw [HK.out, List.take_length]
      have HS1' : Hid (SlH 5 1 (.slice A1 (optBytes s.opts).length c1) (optBytes s.opts).length ((optBytes s.opts).map bval) H1) := by
        have e := HS1.out
        rw [hT] at e
        exact e
      rw [hT]
      rw [hT] at hlen
      have HO1 := Lib.hid (SlH.bytes HS1'.out HP1.out)
      have hol1 : (optBytes s.opts).length ≤ 200 := hlen.out
      have hcw := (hp1_mem HP1.out).cell
      have hlw : w.heap.size < wr.heap.size := (hp1_mem HP1.out).lt
      have HWF : Hid s.wf := Lib.hid HOK.out.1
      have HSD := Lib.hid (HD.out.under hb)
      have HDL : Hid (s.data.length ≤ 1024) := Lib.hid hda
      clear HS1 hlen hT hb hda
      generalize hob : optBytes s.opts = ob at *
      have HOB := Lib.hid hob
      clear hob
      have hl1 : (ob.length : Int) ≤ 200 := by omega
      have HF1 : Hid (∀ f ∈ [((1 : Int), (ob.length : Int))], U64 f.2) := Lib.hid fun f hf => by rw [List.mem_singleton.1 hf]; exact ⟨by simp only; omega, by simp only; omega⟩
      have HHL : Hid ((header s).length ≤ 100000) := Lib.hid (by have := header_len s; omega)
      go_upto_region 12 with (first
        | (go_at_call 154; refine (header_any _ s HWF.out A B _ c _ d).mono ?_; rintro e w2 ⟨A2, c2, H2, rfl, hs2, hp2⟩; (
            have hq2 := (HP1.out).join hp2
            have HS2 := Lib.hid hs2
            have HB2 := Lib.hid (SlH.bytes0 hs2 hp2)
            have HQ2 := Lib.hid hq2
            clear hs2 hp2 hq2))
        | (go_at_call 136; refine (B_any _ _ (by omega) (by omega)).mono ?_; rintro e w3 ⟨rfl, hb3⟩; (
            have HQ3 := Lib.hid (HQ2.out.under hb3)
            have HB3 := Lib.hid (HB2.out.under hb3)
            clear hb3))
        | (go_at_call 31; refine (put_any _ _ _ (header s) [((1 : Int), (ob.length : Int))] (HB3.out.under ((Below.refl _ _).alloc (Nat.le_refl _) _)) (FieldsAt.lit [((1 : Int), (ob.length : Int))] (Blk.new _ _ _) HF1.out (Nat.le_of_ble_eq_true rfl)) HHL.out (Nat.le_of_ble_eq_true rfl)).mono ?_; rintro e w4 ⟨A4, c4, H4, rfl, hs4, hp4⟩; (
            have hq4 := (HQ3.out.skip _).join hp4
            have HS4 := Lib.hid hs4
            have HQ4 := Lib.hid hq4
            clear hs4 hp4 hq4)))
      have HS4' : Hid (SlH 5 1 (.slice A4 ((header s).length + (fieldBytes (1, (ob.length : Int))).length) c4) ((header s).length + (fieldBytes (1, (ob.length : Int))).length) ((header s ++ fieldBytes (1, (ob.length : Int))).map bval) H4) := by
        have e := HS4.out
        rw [flat1, List.length_append] at e
        exact e
      have hseg := hp1_mem HQ4.out.right.right
      have hsc : w4.cell? ⟨w.heap.size, 6, none⟩ = some (.slice B s.data.length d) := hseg.cell 6
      have hhl := header_len s
      have hf1 := fieldBytes_len (1, (ob.length : Int))
      have HHL2 := Lib.hid hhl
      have HF2 := Lib.hid hf1
      clear HS4 hseg hhl hf1
      have hO4 : BytesAt w4 (.slice A1 ob.length c1) ob := SlH.bytes HS1'.out HQ4.out.right.right
      have HO4 := Lib.hid hO4
      clear hO4
      have HQD := Lib.hid HQ4.out.drew
      have hM : (header s).length + (fieldBytes (1, (ob.length : Int))).length + ob.length ≤ 300 := by have := HHL2.out; have := HF2.out; omega
      have HM1 : Hid ((header s).length + (fieldBytes (1, (ob.length : Int))).length + ob.length ≤ maxLen) := by unfold Hid maxLen; omega
      have HM2 : Hid (((header s).length + (fieldBytes (1, (ob.length : Int))).length + ob.length) * 1 ≤ 140737488355328) := by unfold Hid; omega
      have hdl : s.data.length ≤ 1024 := HDL.out
      have HM3 : Hid ((header s).length + (fieldBytes (1, (ob.length : Int))).length + ob.length + s.data.length ≤ maxLen) := by unfold Hid maxLen; omega
      have HM4 : Hid (((header s).length + (fieldBytes (1, (ob.length : Int))).length + ob.length + s.data.length) * 1 ≤ 140737488355328) := by unfold Hid; omega
      have HRD : Hid (Reads w4.drew w4.heap.size 1 A1 ob.length (ob.map bval)) := Lib.hid (Reads.drew (BytesAt.reads HO4.out))
      clear HRT HOK HO HW HA HX HOP HOL HP1 HO1 HQ2 HB2 HQ3 HB3 HS2 HF1 HHL hcw HQ4 hM hdl
      go_region_held3 (fun w' => w'.cell? ⟨w.heap.size, 6, none⟩ = some (.slice B s.data.length d)) (first | assumption | (simp [*, go_sem]; done) | (go_keep; done))
        (first
          | ((refine step_append_H (W := w) (by rfl) _ _ 44 (by rfl) 5 i0 (.int .u8 0) 1 1 und_bytes hi hz0 hz1 hz2 (by rfl) Nat.zero_lt_one (.slice A5 ((header s).length + (fieldBytes (1, (ob.length : Int))).length + ob.length) c5) _ _ H5 _ (by rfl) HS5.out HP5.out w5.heap.size B s.data.length d (s.data.map bval) (by rfl) HRD5.out (bytes_one s.data) HM3.out HM4.out ?_; intro A6 c6 w6 H6 hs6 hp6; have hsc6 := (hp1_mem hp6.right.right).cell 6))
          | ((refine step_append_H (W := w) (by rfl) _ _ 44 (by rfl) 5 i0 (.int .u8 0) 1 1 und_bytes hi hz0 hz1 hz2 (by rfl) Nat.zero_lt_one (.slice A4 ((header s).length + (fieldBytes (1, (ob.length : Int))).length) c4) _ _ H4 _ (by rfl) HS4'.out HQD.out w4.heap.size A1 ob.length c1 (ob.map bval) (by rfl) HRD.out (bytes_one ob) HM1.out HM2.out ?_; intro A5 c5 w5 H5 hs5 hp5; have hsc5 := (hp1_mem hp5.right.right).cell 6; have HS5 := Lib.hid hs5; have HP5 := Lib.hid hp5; have HRD5 := Lib.hid (BytesAt.reads (HD.out.under hp5.below)); clear hs5 hp5)))
      go_wp2_with fail
      go_ret2
      have hE : encode s = header s ++ fieldBytes (1, (ob.length : Int)) ++ ob ++ s.data := by unfold encode; rw [HOB.out]
      have hEL : (encode s).length = (header s).length + (fieldBytes (1, (ob.length : Int))).length + ob.length + s.data.length := by rw [hE]; simp only [List.length_append]
      refine ⟨A6, c6, H6, by rw [hEL]; rfl, ?_, hp6.left⟩
      rw [hEL, hE, List.map_append, List.map_append]
      exact hs6
end Go.Proofs.YtnmpafcflfjhgaaGreat

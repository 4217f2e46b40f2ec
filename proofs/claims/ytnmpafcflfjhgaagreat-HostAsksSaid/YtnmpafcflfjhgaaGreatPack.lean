/- What package pack lays down: fields, bytes of fields. -/
import Derived.Test.YtnmpafcflfjhgaaGreatSip2
import Derived.Laws.BitsAllLaws
namespace Go.Proofs.YtnmpafcflfjhgaaGreat
open Go.RowKit

/-- Two fragments side by side: the one was there, the other came since. -/
theorem Hp.join {W w w' : World} {R H : List (Nat × Obj)} (h : Hp W w R) (h' : Hp w w' H) : Hp W w' (H ++ R) := by
  have hr := h.under h'.below
  refine ⟨hr.below, ?_, fun p hp => ?_⟩
  · rw [List.map_append, List.nodup_append]
    refine ⟨h'.nodup, h.nodup, fun a ha b hb => ?_⟩
    obtain ⟨p, hpm, rfl⟩ := List.mem_map.1 ha
    obtain ⟨q, hqm, rfl⟩ := List.mem_map.1 hb
    have h1 := h'.base hpm
    have h2 := h.lt hqm
    omega
  · rcases List.mem_append.1 hp with hm | hm
    · exact ⟨by have := (h'.at_ p hm).1; have := h.size; omega, (h'.at_ p hm).2⟩
    · exact hr.at_ p hm
theorem byte_wf (b : UInt8) : (bval b).oneCell' = true := rfl
def byteOf (x : Int) : UInt8 := UInt8.ofNat (x % 256).toNat
theorem bval_byteOf (x : Int) : bval (byteOf x) = .int .u8 (x % 256) := by
  unfold bval byteOf
  have h1 := Int.emod_nonneg x (show (256 : Int) ≠ 0 by decide)
  have h2 := Int.emod_lt_of_pos x (show (0 : Int) < 256 by decide)
  congr 1
  simp
  omega
/-- A field's bytes: how many, of which number. -/
def fieldBytes (f : Int × Int) : List UInt8 := if f.1 < 1 ∨ 8 < f.1 then [] else (List.range f.1.toNat).map fun i => byteOf (f.2 / 2 ^ (8 * (f.1.toNat - 1 - i)))
theorem fieldBytes_len (f : Int × Int) : (fieldBytes f).length ≤ 8 := by
  unfold fieldBytes
  split
  · simp
  · simp; omega
/-- A slice that reads as fields. -/
def FieldsAt (w : World) (v : Value) (fs : List (Int × Int)) : Prop :=
  ∃ A c, v = .slice A fs.length c ∧ fs.length ≤ c ∧ c ≤ maxLen ∧ ∀ (k : Nat) (h : k < fs.length), ∃ g off, A = some ⟨g, off, none⟩ ∧ w.cell? ⟨g, off + k * 2, none⟩ = some (.int .i64 (fs[k]'h).1) ∧ w.cell? ⟨g, off + k * 2 + 1, none⟩ = some (.int .u64 (fs[k]'h).2) ∧ U64 (fs[k]'h).2
theorem fieldBytes_out {f : Int × Int} (h : f.1 < 1 ∨ 8 < f.1) : fieldBytes f = [] := by unfold fieldBytes; rw [if_pos h]
theorem fieldBytes_in {f : Int × Int} (h1 : 1 ≤ f.1) (h2 : f.1 ≤ 8) : fieldBytes f = (List.range f.1.toNat).map fun i => byteOf (f.2 / 2 ^ (8 * (f.1.toNat - 1 - i))) := by unfold fieldBytes; rw [if_neg (by omega)]
theorem fieldBytes_snoc {f : Int × Int} (h1 : 1 ≤ f.1) (h2 : f.1 ≤ 8) (j : Nat) (hj : j < f.1.toNat) : (fieldBytes f).take (j + 1) = (fieldBytes f).take j ++ [byteOf (f.2 / 2 ^ (8 * (f.1.toNat - 1 - j)))] := by
  rw [fieldBytes_in h1 h2, List.take_succ_eq_append_getElem (by simpa using hj)]
  simp
theorem fieldBytes_all {f : Int × Int} (h1 : 1 ≤ f.1) (h2 : f.1 ≤ 8) : (fieldBytes f).length = f.1.toNat := by rw [fieldBytes_in h1 h2]; simp
theorem flatMap_snoc {α β : Type} (g : α → List β) (l : List α) (k : Nat) (h : k < l.length) : (l.take (k + 1)).flatMap g = (l.take k).flatMap g ++ g l[k] := by
  rw [List.take_succ_eq_append_getElem h]
  simp only [List.flatMap_append, List.flatMap_cons, List.flatMap_nil, List.append_nil]
theorem fields_len (fs : List (Int × Int)) (k : Nat) : ((fs.take k).flatMap fieldBytes).length ≤ 8 * k := by
  induction k generalizing fs with
  | zero => simp
  | succ k ih =>
    cases fs with
    | nil => simp
    | cons f fs =>
      have := ih fs
      have := fieldBytes_len f
      simp only [List.take_succ_cons, List.flatMap_cons, List.length_append]
      omega
theorem und_bytes : Tryz.prog.underlying 44 = some (.slice 5) := by kernel_rfl
theorem info_byte : (Tryz.prog.info? 5).map (fun i => (i.zero, i.size, i.bytes)) = some (some (.int .u8 0), 1, 1) := by kernel_rfl

set_option maxHeartbeats 1000000 in
set_option maxRecDepth 100000 in
theorem put_any (w : World) (bv fv : Value) (l : List UInt8) (fs : List (Int × Int)) (hb : BytesAt w bv l) (hf : FieldsAt w fv fs) (hl : l.length ≤ 100000) (hn : fs.length ≤ 1000) :
    Calls Tryz.prog 31 #[bv, fv] w fun e w' => ∃ A c H, e = .returned (.slice A (l ++ fs.flatMap fieldBytes).length c) ∧ SlH 5 1 (.slice A (l ++ fs.flatMap fieldBytes).length c) (l ++ fs.flatMap fieldBytes).length ((l ++ fs.flatMap fieldBytes).map bval) H ∧ Hp w w' H := by
  obtain ⟨i0, hi, hz0, hz1, hz2⟩ := info_parts info_byte
  obtain ⟨A, c, rfl, hc1, hc2, hx⟩ := id hb
  obtain ⟨B, d, rfl, hd1, hd2, hy⟩ := id hf
  have HB := Lib.hid hb
  have HY := Lib.hid hy
  clear hb hf hx hy
  unfold maxLen at hc2 hd2
  go_enter Tryz.func31, Tryz.ntmps31
  go_wp2_with (at_builtin; refine wpList_append_H rfl _ _ 44 rfl 5 i0 (.int .u8 0) 1 1 und_bytes hi hz0 hz1 hz2 rfl (by decide) _ _ _ [] [] rfl (SlH.nil_ _ _) (Hp.refl w) w.heap.size A l.length c (l.map bval) rfl ?c1 ?c2 ?c3 ?c4 (fun A' c' w1 H' hs1 hp1 => ?c5); case' c5 => (
    have HS1 := Lib.hid hs1
    have HP1 := Lib.hid hp1
    clear hs1 hp1))
  case c1 => exact BytesAt.reads HB.out
  case c2 =>
    intro u hu
    obtain ⟨b, _, rfl⟩ := List.mem_map.1 hu
    rfl
  case c3 => unfold maxLen; omega
  case c4 => omega
  have hfn : (fs.length : Int) ≤ 1000 := by omega
  go_loopw [5, 13] (fun v i wr => ∃ (k : Nat) (A : Option Addr) (c : Nat) (H : List (Nat × Obj)), k ≤ fs.length ∧ i = .int .i64 k ∧ v = .slice A (l ++ (fs.take k).flatMap fieldBytes).length c ∧ SlH 5 1 (.slice A (l ++ (fs.take k).flatMap fieldBytes).length c) (l ++ (fs.take k).flatMap fieldBytes).length ((l ++ (fs.take k).flatMap fieldBytes).map bval) H ∧ Hp w wr H) (fun _ i _ => fs.length - (intOf i).toNat)
  case atStart =>
    refine ⟨0, A', c', H', Nat.zero_le _, rfl, by simp, ?_, by simpa using HP1.out⟩
    have := HS1.out
    simpa using this
  case round =>
    obtain ⟨k, A2, c2, H2, hk, rfl, rfl, hs2, hp2⟩ := hrel
    have HS2 := Lib.hid hs2
    have HP2 := Lib.hid hp2
    have hlen := fields_len fs k
    have hml : (l ++ (fs.take k).flatMap fieldBytes).length ≤ 110000 := by rw [List.length_append]; omega
    clear hs2 hlen
    by_cases hlt : k < fs.length
    · obtain ⟨g1, off, rfl, hn1, hn2, hu⟩ := HY.out k hlt
      have hbel := hp2.below
      have hm1 : wr.cell? ⟨g1, off + k * 2, none⟩ = some (.int .i64 fs[k].1) := (under_cell hbel g1 (off + k * 2) (by rw [hn1]; rfl)).trans hn1
      have hm2 : wr.cell? ⟨g1, off + k * 2 + 1, none⟩ = some (.int .u64 fs[k].2) := (under_cell hbel g1 (off + k * 2 + 1) (by rw [hn2]; rfl)).trans hn2
      have hkn : (k : Int) < (fs.length : Int) := by omega
      have HSN := Lib.hid (flatMap_snoc fieldBytes fs k hlt)
      obtain ⟨hu0, hu1⟩ := hu
      generalize hpre : l ++ (fs.take k).flatMap fieldBytes = pre at HS2 hml ⊢
      have HPRE := Lib.hid hpre
      generalize fs[k] = f at *
      clear hn1 hn2 hbel hp2 hpre
      obtain ⟨f1, f2⟩ := f
      simp only at hm1 hm2 hu0 hu1
      by_cases hin : 1 ≤ f1 ∧ f1 ≤ 8
      · obtain ⟨h1, h8⟩ := hin
        obtain ⟨n, rfl⟩ : ∃ n : Nat, f1 = n := ⟨f1.toNat, by omega⟩
        have hfl : (fieldBytes ((n : Int), f2)).length = n := by have := fieldBytes_all (f := ((n : Int), f2)) h1 h8; simpa using this
        have hfs : ∀ j, j < n → (fieldBytes ((n : Int), f2)).take (j + 1) = (fieldBytes ((n : Int), f2)).take j ++ [byteOf (f2 / 2 ^ (8 * (n - 1 - j)))] := fun j hj => by have := fieldBytes_snoc (f := ((n : Int), f2)) h1 h8 j (by simpa using hj); simpa using this
        generalize fieldBytes ((n : Int), f2) = fb at HSN hfl hfs
        have HFL := Lib.hid hfl
        have HFS := Lib.hid hfs
        clear hfl hfs
        have hn1 : 1 ≤ n := by omega
        have hn8 : n ≤ 8 := by omega
        have HQ := Lib.hid ((HP2.out.alloc (.cells #[.int .i64 n, .int .u64 f2] 90)).perm (H' := H2 ++ [(wr.heap.size, .cells #[.int .i64 n, .int .u64 f2] 90 (0, 0))]) (by classical (rw [List.perm_iff_count]; intro x; simp only [List.count_append, List.count_cons, List.count_nil]; omega)))
        go_wp2
        obtain ⟨wo, rfl⟩ : ∃ wo : World, wo = wr := ⟨_, rfl⟩
        go_loopw [5, 8] (fun v i wr => ∃ (j : Nat) (A : Option Addr) (c : Nat) (H : List (Nat × Obj)), j ≤ n ∧ i = .int .i64 ((n : Int) - 1 - j) ∧ v = .slice A (pre.length + j) c ∧ SlH 5 1 (.slice A (pre.length + j) c) (pre.length + j) ((pre ++ fb.take j).map bval) H ∧ Hp w wr (H ++ [(wo.heap.size, .cells #[.int .i64 n, .int .u64 f2] 90 (0, 0))])) (fun _ i _ => (intOf i + 1).toNat)
        case atStart => exact ⟨0, A2, c2, H2, Nat.zero_le _, by simp, rfl, by simpa using HS2.out, HQ.out⟩
        case round =>
          obtain ⟨j, A3, c3, H3, hj, rfl, rfl, hs3, hp3⟩ := hrel
          have HS3 := Lib.hid hs3
          have HP3 := Lib.hid hp3
          have hbk : Blk wr wo.heap.size 90 #[.int .i64 n, .int .u64 f2] := hp3.mem (by simp)
          have hcf : wr.cell? ⟨wo.heap.size, 1, none⟩ = some (.int .u64 f2) := hbk.cell 1
          clear hs3 hp3 hbk
          by_cases hjn : j < n
          · have hi0 : 0 ≤ (n : Int) - 1 - j := by omega
            have hi1 : (n : Int) - 1 - j ≤ 7 := by omega
            have HSN2 := Lib.hid (HFS.out j hjn)
            have HE : Hid ((8 * ((n : Int) - 1 - j)).toNat = 8 * (n - 1 - j)) := by unfold Hid; omega
            have hi2 : 0 ≤ 8 * ((n : Int) - 1 - j) := by omega
            have hi3 : 8 * ((n : Int) - 1 - j) ≤ 64 := by omega
            go_wp2_with (at_builtin; refine wpList_append_H (W := w) rfl _ _ 44 rfl 5 i0 (.int .u8 0) 1 1 und_bytes hi hz0 hz1 hz2 rfl (by decide) _ _ _ H3 ((wr.heap.size, .cells #[bval (byteOf (f2 / 2 ^ (8 * (n - 1 - j))))] 5 (0, 0)) :: [(wo.heap.size, .cells #[.int .i64 n, .int .u64 f2] 90 (0, 0))]) rfl HS3.out ?d0 (wr.heap.size + 1) _ 1 1 [bval (byteOf (f2 / 2 ^ (8 * (n - 1 - j))))] rfl ?d1 ?d2 ?d3 ?d4 (fun A4 c4 w4 H4 hs4 hp4 => ?d5); case' d5 => (
              have HS4 := Lib.hid hs4
              have HP4 := Lib.hid hp4
              clear hs4 hp4))
            case d0 =>
              rw [bval_byteOf]
              exact (HP3.out.alloc _).perm (by classical (rw [List.perm_iff_count]; intro x; simp only [List.count_append, List.count_cons, List.count_nil]; omega))
            case d1 =>
              rw [bval_byteOf]
              exact Reads.one (by simp) (by omega)
            case d2 => intro u hu; rw [List.mem_singleton.1 hu]; rfl
            case d3 => unfold maxLen; omega
            case d4 => omega
            go_roundw
            case rel =>
              refine ⟨j + 1, A4, c4, H4, by omega, by go_num, rfl, ?_, ?_⟩
              · rw [HSN2.out, ← List.append_assoc, List.map_append]
                exact HS4.out
              · exact (HP4.out.perm (H' := (wr.heap.size, .cells #[bval (byteOf (f2 / 2 ^ (8 * (n - 1 - j))))] 5 (0, 0)) :: (H4 ++ [(wo.heap.size, .cells #[.int .i64 n, .int .u64 f2] 90 (0, 0))])) (by classical (rw [List.perm_iff_count]; intro x; simp only [List.count_append, List.count_cons, List.count_nil]; omega))).tail
            case measure => simp [intOf]; omega
          · have HJ : Hid (j = n) := Lib.hid (by omega)
            have hneg : (n : Int) - 1 - j < 0 := by omega
            have HPF : Hid (l ++ (fs.take (k + 1)).flatMap fieldBytes = pre ++ fb) := by
              unfold Hid
              rw [HSN.out, ← HPRE.out, List.append_assoc]
            have HLF : Hid ((l ++ (fs.take (k + 1)).flatMap fieldBytes).length = pre.length + j) := by
              unfold Hid
              rw [HPF.out, List.length_append, HFL.out, HJ.out]
            go_wp2
            go_roundw
            case rel =>
              refine ⟨k + 1, A3, c3, H3, by omega, by go_num, by rw [HLF.out], ?_, HP3.out.left⟩
              have e := HS3.out
              rw [HLF.out, HPF.out]
              rw [List.take_of_length_le (by rw [HFL.out, HJ.out]; exact Nat.le_refl _)] at e
              exact e
            case measure => simp [intOf]; omega
      · have HO : Hid (fieldBytes (f1, f2) = []) := Lib.hid (fieldBytes_out (by simp only; omega))
        have HPF : Hid (l ++ (fs.take (k + 1)).flatMap fieldBytes = pre) := by
          unfold Hid
          rw [HSN.out, HO.out, List.append_nil, HPRE.out]
        by_cases hlow : f1 < 1
        all_goals
          have hhi : f1 < 1 ∨ 8 < f1 := by omega
          go_wp2
          all_goals
            go_roundw
            case rel =>
              refine ⟨k + 1, A2, c2, H2, by omega, by go_num, by rw [HPF.out], ?_, HP2.out.skip _⟩
              rw [HPF.out]
              exact HS2.out
            case measure => simp [intOf]; omega
    · have HK : Hid (k = fs.length) := Lib.hid (by omega)
      go_wp2
      go_ret
      have e := HS2.out
      rw [HK.out, List.take_length] at e
      exact ⟨A2, c2, H2, by rw [HK.out, List.take_length]; rfl, e, HP2.out⟩
end Go.Proofs.YtnmpafcflfjhgaaGreat

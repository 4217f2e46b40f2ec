/- SipHash as the program has it: a word, a byte, the end, the sum of parts. -/
import Derived.Test.YtnmpafcflfjhgaaGreatSip
import Derived.Test.YtnmpafcflfjhgaaGreatMem
namespace Go.Proofs.YtnmpafcflfjhgaaGreat
open Go.RowKit

def Sip.xd (s : Sip) (m : Int) : Sip := { s with d := bits .xor .u64 s.d m }
def Sip.xa (s : Sip) (m : Int) : Sip := { s with a := bits .xor .u64 s.a m }
def Sip.xc (s : Sip) (m : Int) : Sip := { s with c := bits .xor .u64 s.c m }
theorem Sip.xd_wf {s : Sip} (h : s.wf) (m : Int) : (s.xd m).wf := ⟨h.1, h.2.1, h.2.2.1, show U64 (bits .xor .u64 s.d m) from u64_bits _ _ _⟩
theorem Sip.xa_wf {s : Sip} (h : s.wf) (m : Int) : (s.xa m).wf := ⟨show U64 (bits .xor .u64 s.a m) from u64_bits _ _ _, h.2.1, h.2.2.1, h.2.2.2⟩
theorem Sip.xc_wf {s : Sip} (h : s.wf) (m : Int) : (s.xc m).wf := ⟨h.1, h.2.1, show U64 (bits .xor .u64 s.c m) from u64_bits _ _ _, h.2.2.2⟩
def Sip.take (s : Sip) (m : Int) : Sip := ((s.xd m).round.round).xa m
theorem Sip.take_wf {s : Sip} (h : s.wf) (m : Int) : (s.take m).wf := Sip.xa_wf (Sip.round_wf (Sip.round_wf (Sip.xd_wf h m))) m

set_option maxHeartbeats 1000000 in
set_option maxRecDepth 100000 in
theorem take_any (W : World) (g : Nat) (s : Sip) (x y m : Int) (w : World) (R : List (Nat × Obj)) (hw : s.wf) (hp : Hp W w (sipH g s x y :: R)) : Calls Tryz.prog 100 #[.pointer (some ⟨g, 0, none⟩), .int .u64 m] w fun e w' => e = .returned (.tuple #[]) ∧ Hp W w' (sipH g (s.take m) x y :: R) := by
  have HP := Lib.hid hp
  have hc := hp.head.cell
  have hf := hp.head.frozen
  clear hp
  go_enter Tryz.func100, Tryz.ntmps100
  go_upto_region 0 with fail
  go_cut [] (fun wx => Hp W wx (sipH g (s.xd m) x y :: R))
  case first =>
    go_still_tail 10, (by kernel_rfl)
    change wpList _ _ _ _ _ w.drew
    go_wp2
    go_meet
    exact HP.out.drew.set_ 3 (.int .u64 (bits .xor .u64 s.d m))
  case rest =>
    clear hc hf HP
    go_upto_region 3 with (first
      | ((with_reducible refine (round_any W g _ x y _ R (Sip.xd_wf hw m) hcut).mono ?_); rintro e w1 ⟨rfl, hp1⟩; clear hcut)
      | ((with_reducible refine (round_any W g _ x y _ R (Sip.round_wf (Sip.xd_wf hw m)) hp1).mono ?_); rintro e w2 ⟨rfl, hp2⟩; clear hp1))
    have HP := Lib.hid hp2
    have hc := hp2.head.cell
    have hf := hp2.head.frozen
    clear hp2
    have HQ : Hid (s.take m = ((s.xd m).round.round).xa m) := rfl
    generalize (s.xd m).round.round = s3 at HP hc HQ
    go_still_tail 10, (by kernel_rfl)
    change wpList _ _ _ _ _ w2.drew
    go_wp2
    go_end0
    refine ⟨rfl, ?_⟩
    rw [HQ.out]
    exact HP.out.drew.set_ 0 (.int .u64 (bits .xor .u64 s3.a m))

/-- What a sum is made of so far: the words, the bytes that don't fill one yet, how many bytes there were. -/
structure SipB where
  s : Sip
  word : Int
  many : Int
def SipB.wf (x : SipB) : Prop := x.s.wf ∧ U64 x.word ∧ 0 ≤ x.many
def SipB.put (x : SipB) (c : UInt8) : SipB := ⟨x.s, bits .or .u64 x.word (IntKind.u64.wrap ((c.toNat : Int) * 2 ^ (8 * (x.many % 8)).toNat)), x.many + 1⟩
def SipB.byte (x : SipB) (c : UInt8) : SipB := if (x.many + 1) % 8 = 0 then ⟨(x.put c).s.take (x.put c).word, 0, x.many + 1⟩ else x.put c
theorem SipB.put_wf {x : SipB} (h : x.wf) (c : UInt8) : (x.put c).wf := ⟨h.1, show U64 (bits .or .u64 x.word _) from u64_bits _ _ _, by have := h.2.2; simp only [SipB.put]; omega⟩
theorem SipB.byte_wf {x : SipB} (h : x.wf) (c : UInt8) : (x.byte c).wf := by
  unfold SipB.byte
  split
  · exact ⟨Sip.take_wf (SipB.put_wf h c).1 _, (show U64 0 from ⟨by decide, by decide⟩), by have := h.2.2; show 0 ≤ x.many + 1; omega⟩
  · exact SipB.put_wf h c
theorem SipB.byte_many (x : SipB) (c : UInt8) : (x.byte c).many = x.many + 1 := by unfold SipB.byte; split <;> rfl
def sipBH (g : Nat) (x : SipB) : Nat × Obj := sipH g x.s x.word x.many

set_option maxHeartbeats 1000000 in
set_option maxRecDepth 100000 in
theorem byte_any (W : World) (g : Nat) (x : SipB) (c : UInt8) (w : World) (R : List (Nat × Obj)) (hw : x.wf) (hm : x.many ≤ 140737488355328) (hp : Hp W w (sipBH g x :: R)) : Calls Tryz.prog 53 #[.pointer (some ⟨g, 0, none⟩), .int .u8 c.toNat] w fun e w' => e = .returned (.tuple #[]) ∧ Hp W w' (sipBH g (x.byte c) :: R) := by
  have HP := Lib.hid hp
  have hc := hp.head.cell
  have hf := hp.head.frozen
  clear hp
  have hcn := c.toNat_lt
  obtain ⟨hs, ⟨hu0, hu1⟩, hm0⟩ := id hw
  have h8 : 0 ≤ x.many % 8 := by omega
  have h9 : x.many % 8 < 8 := by omega
  go_enter Tryz.func53, Tryz.ntmps53
  go_upto_region 0 with fail
  go_cut [] (fun wx => Hp W wx (sipH g x.s (x.put c).word x.many :: R))
  case first =>
    have e1 : x.many.tmod 8 = x.many % 8 := Int.tmod_eq_emod_of_nonneg hm0
    have e2 : IntKind.i64.wrap (8 * (x.many % 8)) = 8 * (x.many % 8) := IntWalk.i64_in _ ⟨by omega, by omega⟩
    have e3 : IntKind.u64.wrap (c.toNat : Int) = (c.toNat : Int) := by rw [IntKind.wrap_u64]; omega
    have h10 : 0 ≤ 8 * (x.many % 8) := by omega
    have h11 : 8 * (x.many % 8) ≤ 64 := by omega
    have h12 : ¬ 8 * (x.many % 8) < 0 := by omega
    go_still_tail 16, (by kernel_rfl)
    change wpList _ _ _ _ _ w.drew
    go_wp2
    go_meet
    exact HP.out.drew.set_ 4 (.int .u64 (x.put c).word)
  case rest =>
    clear hc hf HP
    have HP := Lib.hid hcut
    have hc := hcut.head.cell
    have hf := hcut.head.frozen
    clear hcut
    have HB : Hid (x.byte c = if (x.many + 1) % 8 = 0 then ⟨(x.put c).s.take (x.put c).word, 0, x.many + 1⟩ else x.put c) := rfl
    have HS : Hid ((x.put c).s = x.s) := rfl
    have HM : Hid ((x.put c).many = x.many + 1) := rfl
    have hw3 : U64 (x.put c).word := (SipB.put_wf hw c).2.1
    generalize hwd : (x.put c).word = word1 at HP hc HB hw3
    have HWD := Lib.hid hwd
    clear hwd
    by_cases hz : (x.many + 1) % 8 = 0
    · go_wp2_with ((refine (take_any W g x.s word1 (x.many + 1) word1 _ R hs (HP.out.set_ 5 (.int .i64 (x.many + 1)))).mono ?_); rintro e w1 ⟨rfl, hp1⟩; (
        have HP1 := Lib.hid hp1
        have hc1 := hp1.head.cell
        have hf1 := hp1.head.frozen
        clear hp1))
      go_end0
      refine ⟨rfl, ?_⟩
      rw [HB.out, if_pos hz]
      have e := HP1.out.set_ 4 (.int .u64 0)
      rw [sipBH, HS.out]
      exact e
    · go_wp2
      go_end0
      refine ⟨rfl, ?_⟩
      rw [HB.out, if_neg hz]
      have e := HP.out.set_ 5 (.int .i64 (x.many + 1))
      rw [show sipBH g (x.put c) = sipH g x.s word1 (x.many + 1) by rw [sipBH, HS.out, HWD.out, HM.out]]
      exact e

/-- The sum at the end. -/
def SipB.last (x : SipB) : Int := bits .or .u64 x.word (IntKind.u64.wrap (x.many % 256 * 72057594037927936))
def SipB.fin (x : SipB) : Sip := (((((x.s.take x.last).xc 255).round).round).round).round
def SipB.sum (x : SipB) : Int := bits .xor .u64 (bits .xor .u64 (bits .xor .u64 x.fin.a x.fin.b) x.fin.c) x.fin.d
def roundN : Nat → Sip → Sip
  | 0, s => s
  | k + 1, s => (roundN k s).round
theorem roundN_wf {s : Sip} (h : s.wf) (k : Nat) : (roundN k s).wf := by
  induction k with
  | zero => exact h
  | succ k ih => exact Sip.round_wf ih
theorem SipB.sum_u64 (x : SipB) : U64 x.sum := u64_bits _ _ _

set_option maxHeartbeats 1000000 in
set_option maxRecDepth 100000 in
theorem end_any (W : World) (g : Nat) (x : SipB) (w : World) (R : List (Nat × Obj)) (hw : x.wf) (hm : x.many ≤ 140737488355328) (hp : Hp W w (sipBH g x :: R)) : Calls Tryz.prog 54 #[.pointer (some ⟨g, 0, none⟩)] w fun e w' => e = .returned (.int .u64 x.sum) ∧ Hp W w' (sipH g x.fin x.word x.many :: R) := by
  obtain ⟨hs, ⟨hu0, hu1⟩, hm0⟩ := id hw
  have HP := Lib.hid hp
  have hc := hp.head.cell
  have hf := hp.head.frozen
  clear hp
  go_enter Tryz.func54, Tryz.ntmps54
  go_upto_region 1 with fail
  go_cut [] (fun wx => Hp W wx (sipH g (x.s.take x.last) x.word x.many :: R))
  case first =>
    have e1 : IntKind.u8.wrap x.many = x.many % 256 := by rw [IntKind.wrap_u8]
    have e2 : IntKind.u64.wrap (x.many % 256) = x.many % 256 := by rw [IntKind.wrap_u64]; omega
    have e3 : bits .or .u64 x.word (IntKind.u64.wrap (x.many % 256 * 72057594037927936)) = x.last := rfl
    refine wp_region_still_tail 13 (by kernel_rfl) (by kernel_rfl) ?_
    simp only [List.take_succ_cons, List.take_zero, List.drop_succ_cons, List.drop_zero]
    repeat still_step
    try refine wpStill_nil ?_
    change wpList _ _ _ _ _ w.drew
    go_wp2_with ((refine (take_any W g x.s x.word x.many x.last w.drew R hs HP.out.drew).mono ?_); rintro e w1 ⟨rfl, hp1⟩)
    go_meet
    exact hp1
  case rest =>
    clear hc hf HP
    have HP := Lib.hid hcut
    have hc := hcut.head.cell
    have hf := hcut.head.frozen
    clear hcut
    have hw1 := Sip.take_wf hs x.last
    have HF : Hid (x.fin = roundN 4 ((x.s.take x.last).xc 255)) := rfl
    generalize x.s.take x.last = s1 at HP hc HF hw1
    go_upto_region 2 with fail
    go_cut [] (fun wx => Hp W wx (sipH g (s1.xc 255) x.word x.many :: R))
    case first =>
      go_still_tail 9, (by kernel_rfl)
      change wpList _ _ _ _ _ wc.drew
      go_wp2
      go_meet
      exact HP.out.drew.set_ 2 (.int .u64 (bits .xor .u64 s1.c 255))
    case rest =>
      clear hc hf HP
      have hw2 := Sip.xc_wf hw1 255
      generalize s1.xc 255 = s2 at hcut hw2 HF
      have HP := Lib.hid hcut
      clear hcut
      go_wp2
      go_loopw [26] (fun i wr => ∃ k : Nat, k ≤ 4 ∧ i = .int .i64 k ∧ Hp W wr (sipH g (roundN k s2) x.word x.many :: R)) (fun i _ => 4 - (intOf i).toNat)
      case atStart => exact ⟨0, by omega, rfl, HP.out⟩
      case round =>
        obtain ⟨k, hk, rfl, hpr⟩ := hrel
        have HPR := Lib.hid hpr
        clear hpr
        by_cases hlt : k < 4
        · go_wp2_with ((refine (round_any W g _ x.word x.many _ R (roundN_wf hw2 k) HPR.out).mono ?_); rintro e w2 ⟨rfl, hp2⟩)
          go_roundw
          case rel => exact ⟨k + 1, by omega, by go_num, hp2⟩
          case measure => simp [intOf]; omega
        · obtain rfl : k = 4 := by omega
          have hc := HPR.out.head.cell
          rw [← HF.out] at hc HPR
          have HSU : Hid (x.sum = bits .xor .u64 (bits .xor .u64 (bits .xor .u64 x.fin.a x.fin.b) x.fin.c) x.fin.d) := rfl
          generalize hfin : x.fin = s3 at hc HPR HSU
          have HFN := Lib.hid hfin
          clear hfin
          go_wp2
          go_quiet (fail)
          go_wp2
          go_ret
          exact ⟨by rw [HSU.out]; rfl, by rw [HFN.out]; exact HPR.out.drewN _⟩

def Sip.begin (k0 k1 : Int) : Sip := ⟨bits .xor .u64 k0 8317987319222330741, bits .xor .u64 k1 7237128888997146477, bits .xor .u64 k0 7816392313619706465, bits .xor .u64 k1 8387220255154660723⟩
theorem Sip.begin_wf (k0 k1 : Int) : (Sip.begin k0 k1).wf := by
  unfold Sip.wf Sip.begin
  exact ⟨u64_bits .xor k0 8317987319222330741, u64_bits .xor k1 7237128888997146477, u64_bits .xor k0 7816392313619706465, u64_bits .xor k1 8387220255154660723⟩
def SipB.new (k0 k1 : Int) : SipB := ⟨Sip.begin k0 k1, 0, 0⟩
theorem SipB.new_wf (k0 k1 : Int) : (SipB.new k0 k1).wf := ⟨Sip.begin_wf k0 k1, (show U64 0 from ⟨by decide, by decide⟩), (show (0 : Int) ≤ 0 by decide)⟩

set_option maxHeartbeats 1000000 in
set_option maxRecDepth 100000 in
theorem begin_any (W w : World) (k0 k1 : Int) (R : List (Nat × Obj)) (hp : Hp W w R) : Calls Tryz.prog 52 #[.agg #[.int .u64 k0, .int .u64 k1]] w fun e w' => ∃ g, e = .returned (.pointer (some ⟨g, 0, none⟩)) ∧ Hp W w' (sipBH g (SipB.new k0 k1) :: R) := by
  have HP := Lib.hid hp
  clear hp
  have e1 : bits .xor .u64 k0 8317987319222330741 = (Sip.begin k0 k1).a := rfl
  have e2 : bits .xor .u64 k1 7237128888997146477 = (Sip.begin k0 k1).b := rfl
  have e3 : bits .xor .u64 k0 7816392313619706465 = (Sip.begin k0 k1).c := rfl
  have e4 : bits .xor .u64 k1 8387220255154660723 = (Sip.begin k0 k1).d := rfl
  go_enter Tryz.func52, Tryz.ntmps52
  go_wp2
  go_ret
  exact ⟨w.heap.size + 1, rfl, (HP.out.skip _).alloc_at _ (by simp)⟩

def SipB.bytes (x : SipB) (l : List UInt8) : SipB := l.foldl SipB.byte x
theorem SipB.bytes_wf {x : SipB} (h : x.wf) (l : List UInt8) : (x.bytes l).wf := by
  induction l generalizing x with
  | nil => exact h
  | cons c l ih => exact ih (SipB.byte_wf h c)
theorem SipB.bytes_many (x : SipB) (l : List UInt8) : (x.bytes l).many = x.many + l.length := by
  induction l generalizing x with
  | nil => simp [SipB.bytes]
  | cons c l ih =>
    have := ih (x.byte c)
    rw [SipB.byte_many] at this
    simp only [SipB.bytes, List.foldl_cons, List.length_cons] at *
    omega
theorem SipB.bytes_snoc (x : SipB) (l : List UInt8) (k : Nat) (h : k < l.length) : x.bytes (l.take (k + 1)) = (x.bytes (l.take k)).byte (l[k]) := by
  rw [List.take_succ_eq_append_getElem h]
  simp only [SipB.bytes, List.foldl_append, List.foldl_cons, List.foldl_nil]
theorem SipB.bytes_app (x : SipB) (l m : List UInt8) : x.bytes (l ++ m) = (x.bytes l).bytes m := by simp [SipB.bytes, List.foldl_append]
/-- The sum of bytes under a key. -/
def sipSum (k0 k1 : Int) (l : List UInt8) : Int := ((SipB.new k0 k1).bytes l).sum
theorem sipSum_u64 (k0 k1 : Int) (l : List UInt8) : U64 (sipSum k0 k1 l) := SipB.sum_u64 _
theorem flat_snoc {α : Type} (ls : List (List α)) (k : Nat) (h : k < ls.length) : (ls.take (k + 1)).flatten = (ls.take k).flatten ++ ls[k] := by
  rw [List.take_succ_eq_append_getElem h]
  simp only [List.flatten_append, List.flatten_cons, List.flatten_nil, List.append_nil]
theorem flat_le {α : Type} (ls : List (List α)) (k : Nat) (h : k < ls.length) : (ls.take k).flatten.length + ls[k].length ≤ ls.flatten.length := by
  have e : ls.flatten = (ls.take (k + 1)).flatten ++ (ls.drop (k + 1)).flatten := by rw [← List.flatten_append, List.take_append_drop]
  rw [e, flat_snoc ls k h]
  simp

set_option maxHeartbeats 1000000 in
set_option maxRecDepth 100000 in
theorem sum_any (w : World) (k0 k1 : Int) (v : Value) (ls : List (List UInt8)) (hr : PartsAt w v ls) (hl : ls.flatten.length ≤ 140737488355000) : Calls Tryz.prog 30 #[.agg #[.int .u64 k0, .int .u64 k1], v] w fun e w' => e = .returned (.int .u64 (sipSum k0 k1 ls.flatten)) ∧ Below w.heap.size w w' := by
  obtain ⟨A, c, rfl, hc1, hm, hx⟩ := hr
  unfold maxLen at hm
  have hn : ls.length ≤ 9223372036854775807 := by omega
  have HX := Lib.hid hx
  have HL := Lib.hid hl
  clear hx hl
  go_enter Tryz.func30, Tryz.ntmps30
  go_wp2_with ((refine (begin_any w _ k0 k1 [] ((Hp.refl w).skip _)).mono ?_); rintro e w1 ⟨g, rfl, hp1⟩; (
    have HP1 := Lib.hid hp1
    clear hp1))
  go_outline
  go_loopw [14] (fun i wr => ∃ k : Nat, k ≤ ls.length ∧ i = .int .i64 k ∧ Hp w wr [sipBH g ((SipB.new k0 k1).bytes (ls.take k).flatten)]) (fun i _ => ls.length - (intOf i).toNat)
  case atStart => exact ⟨0, Nat.zero_le _, rfl, HP1.out⟩
  case round =>
    obtain ⟨k, hk, rfl, hpr⟩ := hrel
    have HPR := Lib.hid hpr
    have hbel := hpr.below
    clear hpr
    by_cases hlt : k < ls.length
    · obtain ⟨g1, off, u, rfl, hcell, hby⟩ := HX.out k hlt
      have hfl := flat_le ls k hlt
      have hll := HL.out
      obtain ⟨B, cc, rfl, hb1, hb2, hbx⟩ := hby
      unfold maxLen at hb2
      have hcell2 : wr.cell? ⟨g1, off + k, none⟩ = some (.slice B ls[k].length cc) := (under_cell hbel g1 (off + k) (by rw [hcell]; rfl)).trans hcell
      have HBX := Lib.hid hbx
      have HB := Lib.hid hbel
      have HFS := Lib.hid (flat_snoc ls k hlt)
      have hmy := SipB.bytes_many (SipB.new k0 k1) (ls.take k).flatten
      have HMY := Lib.hid hmy
      have hwf := SipB.bytes_wf (SipB.new_wf k0 k1) (ls.take k).flatten
      generalize hx0 : (SipB.new k0 k1).bytes (ls.take k).flatten = x0 at HPR HMY hwf
      have HX0 := Lib.hid hx0
      generalize ls[k] = l at *
      clear hx0 hmy hbx hbel hcell
      have hl2 : l.length ≤ 9223372036854775807 := by omega
      have hkn : (k : Int) < (ls.length : Int) := by omega
      have HFL := Lib.hid hfl
      have HLL := Lib.hid hll
      clear hfl hll
      go_wp2
      obtain ⟨wo, rfl⟩ : ∃ wo : World, wo = wr := ⟨_, rfl⟩
      go_loopw [20] (fun i wr => ∃ j : Nat, j ≤ l.length ∧ i = .int .i64 j ∧ Hp w wr [sipBH g (x0.bytes (l.take j))]) (fun i _ => l.length - (intOf i).toNat)
      case atStart => exact ⟨0, Nat.zero_le _, rfl, HPR.out⟩
      case round =>
        obtain ⟨j, hj, rfl, hpi⟩ := hrel
        have HPI := Lib.hid hpi
        have hbi := hpi.below
        clear hpi
        by_cases hjl : j < l.length
        · obtain ⟨g2, off2, rfl, hcell3⟩ := HBX.out j hjl
          have hcell4 : wr.cell? ⟨g2, off2 + j, none⟩ = some (.int .u8 (l[j]'hjl).toNat) := (under_cell hbi g2 (off2 + j) (by rw [hcell3]; rfl)).trans hcell3
          have hmi : Hid ((x0.bytes (l.take j)).many ≤ 140737488355328) := by
            have e1 := SipB.bytes_many x0 (l.take j)
            have e2 := HMY.out
            have e3 := HFL.out
            have e4 := HLL.out
            simp only [List.length_take, SipB.new] at e1 e2
            unfold Hid
            omega
          have HSN := Lib.hid (SipB.bytes_snoc x0 l j hjl)
          have hjn : (j : Int) < (l.length : Int) := by omega
          clear hcell3 hbi
          generalize l[j] = cb at *
          go_wp2_with ((refine (byte_any w g _ cb _ [] (SipB.bytes_wf hwf _) hmi.out HPI.out).mono ?_); rintro e w2 ⟨rfl, hp2⟩)
          go_roundw
          case rel => exact ⟨j + 1, by omega, by go_num, by rw [HSN.out]; exact hp2⟩
          case measure => simp [intOf]; omega
        · have HJ : Hid (j = l.length) := Lib.hid (by omega)
          clear hbi
          go_wp2
          go_roundw
          case rel => exact ⟨k + 1, by omega, by go_num, by
            have e := HPI.out
            rw [HJ.out, List.take_length, ← HX0.out, ← SipB.bytes_app, ← HFS.out] at e
            exact e⟩
          case measure => simp [intOf]; omega
    · have HK : Hid (k = ls.length) := Lib.hid (by omega)
      clear hbel
      have hwf := SipB.bytes_wf (SipB.new_wf k0 k1) (ls.take k).flatten
      have hmi : Hid (((SipB.new k0 k1).bytes (ls.take k).flatten).many ≤ 140737488355328) := by
        have e1 := SipB.bytes_many (SipB.new k0 k1) (ls.take k).flatten
        have e2 := HL.out
        rw [HK.out, List.take_length] at *
        simp only [SipB.new] at e1 ⊢
        unfold Hid
        omega
      go_wp2_with ((refine (end_any w g _ _ [] hwf hmi.out HPR.out).mono ?_); rintro e w2 ⟨rfl, hp2⟩)
      go_ret
      exact ⟨by rw [HK.out, List.take_length]; rfl, hp2.below⟩
end Go.Proofs.YtnmpafcflfjhgaaGreat

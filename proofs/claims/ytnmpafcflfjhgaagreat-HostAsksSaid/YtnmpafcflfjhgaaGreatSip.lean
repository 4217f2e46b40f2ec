/- SipHash as the program has it: what package sip computes, as functions of numbers. -/
import Derived.Test.YtnmpafcflfjhgaaGreatBase
namespace Go.Proofs.YtnmpafcflfjhgaaGreat
open Go.RowKit

/-- A number of 64 bits. -/
def U64 (x : Int) : Prop := 0 ≤ x ∧ x < 18446744073709551616
theorem u64_wrap (x : Int) : U64 (IntKind.u64.wrap x) := by
  unfold U64
  rw [IntKind.wrap_u64]
  omega
theorem u64_bits (op : BinOp) (x y : Int) : U64 (bits op .u64 x y) := by
  unfold bits
  exact u64_wrap _
def rotl (x k : Int) : Int := bits .or .u64 (IntKind.u64.wrap (x * 2 ^ k.toNat)) (x / 2 ^ (64 - k).toNat)
theorem rotl_u64 (x k : Int) : U64 (rotl x k) := u64_bits _ _ _
set_option maxHeartbeats 400000 in
theorem rot_any (x k : Int) (w : World) (hx : U64 x) (hk : 1 ≤ k) (hk2 : k ≤ 63) (hb : bits .and .u64 k 63 = k) : Calls Tryz.prog 138 #[.int .u64 x, .int .i64 k] w fun e w' => e = .returned (.int .u64 (rotl x k)) ∧ w' = w := by
  obtain ⟨h0, h1⟩ := hx
  have h2 : k % 18446744073709551616 = k := by omega
  go_enter Tryz.func138, Tryz.ntmps138
  go_wp2
  go_ret
  exact ⟨rfl, rfl⟩
/-- The four words. -/
structure Sip where
  a : Int
  b : Int
  c : Int
  d : Int
def Sip.wf (s : Sip) : Prop := U64 s.a ∧ U64 s.b ∧ U64 s.c ∧ U64 s.d
def sipH (g : Nat) (s : Sip) (word many : Int) : Nat × Obj := (g, .cells #[.int .u64 s.a, .int .u64 s.b, .int .u64 s.c, .int .u64 s.d, .int .u64 word, .int .i64 many] 206 (0, 0))
def Sip.r1 (s : Sip) : Sip := { s with a := IntKind.u64.wrap (s.a + s.b) }
def Sip.r2 (s : Sip) : Sip := { s with c := IntKind.u64.wrap (s.c + s.d) }
def Sip.r3 (s : Sip) : Sip := { s with b := bits .xor .u64 (rotl s.b 13) s.a }
def Sip.r4 (s : Sip) : Sip := { s with d := bits .xor .u64 (rotl s.d 16) s.c }
def Sip.r5 (s : Sip) : Sip := { s with a := rotl s.a 32 }
def Sip.r6 (s : Sip) : Sip := { s with c := IntKind.u64.wrap (s.c + s.b) }
def Sip.r7 (s : Sip) : Sip := { s with a := IntKind.u64.wrap (s.a + s.d) }
def Sip.r8 (s : Sip) : Sip := { s with b := bits .xor .u64 (rotl s.b 17) s.c }
def Sip.r9 (s : Sip) : Sip := { s with d := bits .xor .u64 (rotl s.d 21) s.a }
def Sip.r10 (s : Sip) : Sip := { s with c := rotl s.c 32 }
theorem Sip.r1_wf {s : Sip} (h : s.wf) : s.r1.wf := ⟨show U64 (IntKind.u64.wrap (s.a + s.b)) from u64_wrap _, h.2.1, h.2.2.1, h.2.2.2⟩
theorem Sip.r2_wf {s : Sip} (h : s.wf) : s.r2.wf := ⟨h.1, h.2.1, show U64 (IntKind.u64.wrap (s.c + s.d)) from u64_wrap _, h.2.2.2⟩
theorem Sip.r3_wf {s : Sip} (h : s.wf) : s.r3.wf := ⟨h.1, show U64 (bits .xor .u64 (rotl s.b 13) s.a) from u64_bits _ _ _, h.2.2.1, h.2.2.2⟩
theorem Sip.r4_wf {s : Sip} (h : s.wf) : s.r4.wf := ⟨h.1, h.2.1, h.2.2.1, show U64 (bits .xor .u64 (rotl s.d 16) s.c) from u64_bits _ _ _⟩
theorem Sip.r5_wf {s : Sip} (h : s.wf) : s.r5.wf := ⟨show U64 (rotl s.a 32) from rotl_u64 _ _, h.2.1, h.2.2.1, h.2.2.2⟩
theorem Sip.r6_wf {s : Sip} (h : s.wf) : s.r6.wf := ⟨h.1, h.2.1, show U64 (IntKind.u64.wrap (s.c + s.b)) from u64_wrap _, h.2.2.2⟩
theorem Sip.r7_wf {s : Sip} (h : s.wf) : s.r7.wf := ⟨show U64 (IntKind.u64.wrap (s.a + s.d)) from u64_wrap _, h.2.1, h.2.2.1, h.2.2.2⟩
theorem Sip.r8_wf {s : Sip} (h : s.wf) : s.r8.wf := ⟨h.1, show U64 (bits .xor .u64 (rotl s.b 17) s.c) from u64_bits _ _ _, h.2.2.1, h.2.2.2⟩
theorem Sip.r9_wf {s : Sip} (h : s.wf) : s.r9.wf := ⟨h.1, h.2.1, h.2.2.1, show U64 (bits .xor .u64 (rotl s.d 21) s.a) from u64_bits _ _ _⟩
theorem Sip.r10_wf {s : Sip} (h : s.wf) : s.r10.wf := ⟨h.1, h.2.1, show U64 (rotl s.c 32) from rotl_u64 _ _, h.2.2.2⟩
/-- The words, stirred once. -/
def Sip.round (s : Sip) : Sip := s.r1.r2.r3.r4.r5.r6.r7.r8.r9.r10
theorem Sip.round_wf {s : Sip} (h : s.wf) : s.round.wf := Sip.r10_wf (Sip.r9_wf (Sip.r8_wf (Sip.r7_wf (Sip.r6_wf (Sip.r5_wf (Sip.r4_wf (Sip.r3_wf (Sip.r2_wf (Sip.r1_wf (h))))))))))
set_option maxHeartbeats 2000000 in
set_option maxRecDepth 100000 in
theorem round_any (W : World) (g : Nat) (s : Sip) (x y : Int) (w : World) (R : List (Nat × Obj)) (hw : s.wf) (hp : Hp W w (sipH g s x y :: R)) : Calls Tryz.prog 101 #[.pointer (some ⟨g, 0, none⟩)] w fun e w' => e = .returned (.tuple #[]) ∧ Hp W w' (sipH g s.round x y :: R) := by
  have HP := Lib.hid hp
  have hc := hp.head.cell
  have hf := hp.head.frozen
  clear hp
  go_enter Tryz.func101, Tryz.ntmps101
  go_upto_region 1 with fail
  have hw1 : (s).wf := hw
  obtain ⟨⟨a0, a1⟩, ⟨b0, b1⟩, ⟨c0, c1⟩, ⟨d0, d1⟩⟩ := id hw1
  go_cut [] (fun wx => Hp W wx (sipH g (s).r1 x y :: R))
  case first =>
    go_still_tail 11, (by kernel_rfl)
    change wpList _ _ _ _ _ w.drew
    go_wp2
    go_meet
    exact HP.out.drew.set_ 0 (.int .u64 (IntKind.u64.wrap (s.a + s.b)))
  case rest =>
    have HP := Lib.hid hcut
    have hc := hcut.head.cell
    have hf := hcut.head.frozen
    clear hcut
    have hw2 : (s.r1).wf := Sip.r1_wf hw1
    generalize hs2 : s.r1 = s2 at HP hc hw2
    have HS2 := Lib.hid hs2
    clear hs2
    obtain ⟨⟨a0, a1⟩, ⟨b0, b1⟩, ⟨c0, c1⟩, ⟨d0, d1⟩⟩ := id hw2
    go_upto_region 2 with fail
    go_cut [] (fun wx => Hp W wx (sipH g (s2).r2 x y :: R))
    case first =>
      go_still_tail 11, (by kernel_rfl)
      change wpList _ _ _ _ _ wc.drew
      go_wp2
      go_meet
      exact HP.out.drew.set_ 2 (.int .u64 (IntKind.u64.wrap (s2.c + s2.d)))
    case rest =>
      have HP := Lib.hid hcut
      have hc := hcut.head.cell
      have hf := hcut.head.frozen
      clear hcut
      have hw3 : (s2.r2).wf := Sip.r2_wf hw2
      generalize hs3 : s2.r2 = s3 at HP hc hw3
      have HS3 := Lib.hid hs3
      clear hs3
      obtain ⟨⟨a0, a1⟩, ⟨b0, b1⟩, ⟨c0, c1⟩, ⟨d0, d1⟩⟩ := id hw3
      go_upto_region 3 with fail
      go_cut [] (fun wx => Hp W wx (sipH g (s3).r3 x y :: R))
      case first =>
        refine wp_region_still_tail 13 (by kernel_rfl) (by kernel_rfl) ?_
        simp only [List.take_succ_cons, List.take_zero, List.drop_succ_cons, List.drop_zero]
        repeat still_step
        still_call (rot_any _ 13 _ hw3.2.1 (by decide) (by decide) rfl)
        repeat still_step
        try refine wpStill_nil ?_
        change wpList _ _ _ _ _ wc.drew
        go_wp2
        go_meet
        exact HP.out.drew.set_ 1 (.int .u64 (bits .xor .u64 (rotl s3.b 13) s3.a))
      case rest =>
        have HP := Lib.hid hcut
        have hc := hcut.head.cell
        have hf := hcut.head.frozen
        clear hcut
        have hw4 : (s3.r3).wf := Sip.r3_wf hw3
        generalize hs4 : s3.r3 = s4 at HP hc hw4
        have HS4 := Lib.hid hs4
        clear hs4
        obtain ⟨⟨a0, a1⟩, ⟨b0, b1⟩, ⟨c0, c1⟩, ⟨d0, d1⟩⟩ := id hw4
        go_upto_region 4 with fail
        go_cut [] (fun wx => Hp W wx (sipH g (s4).r4 x y :: R))
        case first =>
          refine wp_region_still_tail 13 (by kernel_rfl) (by kernel_rfl) ?_
          simp only [List.take_succ_cons, List.take_zero, List.drop_succ_cons, List.drop_zero]
          repeat still_step
          still_call (rot_any _ 16 _ hw4.2.2.2 (by decide) (by decide) rfl)
          repeat still_step
          try refine wpStill_nil ?_
          change wpList _ _ _ _ _ wc.drew
          go_wp2
          go_meet
          exact HP.out.drew.set_ 3 (.int .u64 (bits .xor .u64 (rotl s4.d 16) s4.c))
        case rest =>
          have HP := Lib.hid hcut
          have hc := hcut.head.cell
          have hf := hcut.head.frozen
          clear hcut
          have hw5 : (s4.r4).wf := Sip.r4_wf hw4
          generalize hs5 : s4.r4 = s5 at HP hc hw5
          have HS5 := Lib.hid hs5
          clear hs5
          obtain ⟨⟨a0, a1⟩, ⟨b0, b1⟩, ⟨c0, c1⟩, ⟨d0, d1⟩⟩ := id hw5
          go_upto_region 5 with fail
          go_cut [] (fun wx => Hp W wx (sipH g (s5).r5 x y :: R))
          case first =>
            refine wp_region_still_tail 8 (by kernel_rfl) (by kernel_rfl) ?_
            simp only [List.take_succ_cons, List.take_zero, List.drop_succ_cons, List.drop_zero]
            repeat still_step
            still_call (rot_any _ 32 _ hw5.1 (by decide) (by decide) rfl)
            repeat still_step
            try refine wpStill_nil ?_
            change wpList _ _ _ _ _ wc.drew
            go_wp2
            go_meet
            exact HP.out.drew.set_ 0 (.int .u64 (rotl s5.a 32))
          case rest =>
            have HP := Lib.hid hcut
            have hc := hcut.head.cell
            have hf := hcut.head.frozen
            clear hcut
            have hw6 : (s5.r5).wf := Sip.r5_wf hw5
            generalize hs6 : s5.r5 = s6 at HP hc hw6
            have HS6 := Lib.hid hs6
            clear hs6
            obtain ⟨⟨a0, a1⟩, ⟨b0, b1⟩, ⟨c0, c1⟩, ⟨d0, d1⟩⟩ := id hw6
            go_upto_region 6 with fail
            go_cut [] (fun wx => Hp W wx (sipH g (s6).r6 x y :: R))
            case first =>
              go_still_tail 11, (by kernel_rfl)
              change wpList _ _ _ _ _ wc.drew
              go_wp2
              go_meet
              exact HP.out.drew.set_ 2 (.int .u64 (IntKind.u64.wrap (s6.c + s6.b)))
            case rest =>
              have HP := Lib.hid hcut
              have hc := hcut.head.cell
              have hf := hcut.head.frozen
              clear hcut
              have hw7 : (s6.r6).wf := Sip.r6_wf hw6
              generalize hs7 : s6.r6 = s7 at HP hc hw7
              have HS7 := Lib.hid hs7
              clear hs7
              obtain ⟨⟨a0, a1⟩, ⟨b0, b1⟩, ⟨c0, c1⟩, ⟨d0, d1⟩⟩ := id hw7
              go_upto_region 7 with fail
              go_cut [] (fun wx => Hp W wx (sipH g (s7).r7 x y :: R))
              case first =>
                go_still_tail 11, (by kernel_rfl)
                change wpList _ _ _ _ _ wc.drew
                go_wp2
                go_meet
                exact HP.out.drew.set_ 0 (.int .u64 (IntKind.u64.wrap (s7.a + s7.d)))
              case rest =>
                have HP := Lib.hid hcut
                have hc := hcut.head.cell
                have hf := hcut.head.frozen
                clear hcut
                have hw8 : (s7.r7).wf := Sip.r7_wf hw7
                generalize hs8 : s7.r7 = s8 at HP hc hw8
                have HS8 := Lib.hid hs8
                clear hs8
                obtain ⟨⟨a0, a1⟩, ⟨b0, b1⟩, ⟨c0, c1⟩, ⟨d0, d1⟩⟩ := id hw8
                go_upto_region 8 with fail
                go_cut [] (fun wx => Hp W wx (sipH g (s8).r8 x y :: R))
                case first =>
                  refine wp_region_still_tail 13 (by kernel_rfl) (by kernel_rfl) ?_
                  simp only [List.take_succ_cons, List.take_zero, List.drop_succ_cons, List.drop_zero]
                  repeat still_step
                  still_call (rot_any _ 17 _ hw8.2.1 (by decide) (by decide) rfl)
                  repeat still_step
                  try refine wpStill_nil ?_
                  change wpList _ _ _ _ _ wc.drew
                  go_wp2
                  go_meet
                  exact HP.out.drew.set_ 1 (.int .u64 (bits .xor .u64 (rotl s8.b 17) s8.c))
                case rest =>
                  have HP := Lib.hid hcut
                  have hc := hcut.head.cell
                  have hf := hcut.head.frozen
                  clear hcut
                  have hw9 : (s8.r8).wf := Sip.r8_wf hw8
                  generalize hs9 : s8.r8 = s9 at HP hc hw9
                  have HS9 := Lib.hid hs9
                  clear hs9
                  obtain ⟨⟨a0, a1⟩, ⟨b0, b1⟩, ⟨c0, c1⟩, ⟨d0, d1⟩⟩ := id hw9
                  go_upto_region 9 with fail
                  go_cut [] (fun wx => Hp W wx (sipH g (s9).r9 x y :: R))
                  case first =>
                    refine wp_region_still_tail 13 (by kernel_rfl) (by kernel_rfl) ?_
                    simp only [List.take_succ_cons, List.take_zero, List.drop_succ_cons, List.drop_zero]
                    repeat still_step
                    still_call (rot_any _ 21 _ hw9.2.2.2 (by decide) (by decide) rfl)
                    repeat still_step
                    try refine wpStill_nil ?_
                    change wpList _ _ _ _ _ wc.drew
                    go_wp2
                    go_meet
                    exact HP.out.drew.set_ 3 (.int .u64 (bits .xor .u64 (rotl s9.d 21) s9.a))
                  case rest =>
                    have HP := Lib.hid hcut
                    have hc := hcut.head.cell
                    have hf := hcut.head.frozen
                    clear hcut
                    have hw10 : (s9.r9).wf := Sip.r9_wf hw9
                    generalize hs10 : s9.r9 = s10 at HP hc hw10
                    have HS10 := Lib.hid hs10
                    clear hs10
                    obtain ⟨⟨a0, a1⟩, ⟨b0, b1⟩, ⟨c0, c1⟩, ⟨d0, d1⟩⟩ := id hw10
                    go_upto_region 10 with fail
                    refine wp_region_still_tail 8 (by kernel_rfl) (by kernel_rfl) ?_
                    simp only [List.take_succ_cons, List.take_zero, List.drop_succ_cons, List.drop_zero]
                    repeat still_step
                    still_call (rot_any _ 32 _ hw10.2.2.1 (by decide) (by decide) rfl)
                    repeat still_step
                    try refine wpStill_nil ?_
                    change wpList _ _ _ _ _ wc.drew
                    go_wp2
                    go_end0
                    refine ⟨rfl, ?_⟩
                    have e2 : s.round = s10.r10 := by unfold Sip.round; rw [HS2.out, HS3.out, HS4.out, HS5.out, HS6.out, HS7.out, HS8.out, HS9.out, HS10.out]
                    rw [e2]
                    exact HP.out.drew.set_ 2 (.int .u64 (rotl s10.c 32))
end Go.Proofs.YtnmpafcflfjhgaaGreat

/- The host's ports: whether a number is a port, who listens there, Listen, and the calls that find nobody. -/
import Derived.Test.YtnmpafcflfjhgaaGreatRight
import Derived.Test.YtnmpafcflfjhgaaGreatMem
namespace Go.Proofs.YtnmpafcflfjhgaaGreat
open Go.RowKit

theorem good_any (n : Int) (w : World) : Calls Tryz.prog 24 #[.int .i64 n] w fun e w' => e = .returned (.bool (win n 1 65535)) ∧ w = w' := by
  unfold win
  by_cases h : 1 ≤ n
  · go_enter Tryz.func24, Tryz.ntmps24
    go_wp2
    go_ret
    simp [h]
  · go_enter Tryz.func24, Tryz.ntmps24
    go_wp2
    go_ret
    simp
    omega

/-- The first port of a number. -/
def findPort (P : List (Nat × Int)) (at_ : Int) : Option Nat := (P.find? fun p => p.2 == at_).map (·.1)
theorem findPort_hit {P : List (Nat × Int)} {at_ : Int} {k : Nat} (h : k < P.length) (hn : findPort (P.take k) at_ = none) (he : P[k].2 = at_) : findPort P at_ = some P[k].1 := by
  unfold findPort at *
  conv => lhs; rw [← List.take_append_drop k P]
  rw [List.find?_append]
  have h1 : (P.take k).find? (fun p => p.2 == at_) = none := by simpa using hn
  rw [h1, List.drop_eq_getElem_cons h, List.find?_cons_of_pos (by simp [he])]
  rfl
theorem findPort_miss {P : List (Nat × Int)} {at_ : Int} {k : Nat} (h : k < P.length) (hn : findPort (P.take k) at_ = none) (he : ¬ P[k].2 = at_) : findPort (P.take (k + 1)) at_ = none := by
  unfold findPort at *
  rw [List.take_succ_eq_append_getElem h, List.find?_append]
  have h1 : (P.take k).find? (fun p => p.2 == at_) = none := by simpa using hn
  simp [h1, he]
set_option maxHeartbeats 400000 in
set_option maxRecDepth 10000 in
theorem listener_any (h : Nat) (at_ : Int) (w : World) (A : Option Addr) (c : Nat) (P : List (Nat × Int)) (hp : w.cell? ⟨h, 28, none⟩ = some (.slice A P.length c)) (hc : P.length ≤ c) (hm : c ≤ maxLen) (hr : Row w A (P.map fun p => ptr p.1))
    (ha : ∀ p ∈ P, w.cell? ⟨p.1, 0, none⟩ = some (.int .i64 p.2)) :
    Calls Tryz.prog 25 #[.pointer (some ⟨h, 0, none⟩), .int .i64 at_] w fun e w' => e = .returned (optPtr (findPort P at_)) ∧ w = w' := by
  unfold maxLen at hm
  have hl : P.length ≤ 9223372036854775807 := by omega
  have HX := Lib.hid hr
  have HA := Lib.hid ha
  clear hr ha
  go_enter Tryz.func25, Tryz.ntmps25
  go_wp2
  go_loop [12] (fun i => ∃ k : Nat, k ≤ P.length ∧ i = .int .i64 k ∧ findPort (P.take k) at_ = none) (fun i => P.length - (intOf i).toNat)
  case atStart => exact ⟨0, Nat.zero_le _, rfl, rfl⟩
  case round =>
    obtain ⟨k, hk, rfl, hn⟩ := hrel
    have HN := Lib.hid hn
    clear hn
    by_cases hlt : k < P.length
    · obtain ⟨g, off, rfl, hcell⟩ := HX.out k (by simpa using hlt)
      rw [List.getD_eq_getElem?_getD, List.getElem?_map, List.getElem?_eq_getElem hlt] at hcell
      have hat := HA.out P[k] (List.getElem_mem hlt)
      simp only [ptr, Option.map_some, Option.getD_some] at hcell
      by_cases he : P[k].2 = at_
      · have hb : (P[k].2 == at_) = true := by simp [he]
        have HE := Lib.hid he
        clear he
        go_wp2
        go_ret
        exact ⟨by rw [findPort_hit hlt HN.out HE.out]; rfl, rfl⟩
      · have hb : (P[k].2 == at_) = false := by simp [he]
        go_wp2
        go_round
        case rel => exact ⟨k + 1, by omega, by go_num, findPort_miss hlt HN.out he⟩
        case measure => simp [intOf]; omega
    · have HK : Hid (k = P.length) := Lib.hid (by omega)
      go_wp2
      go_ret
      exact ⟨by
        have := HN.out
        rw [List.take_of_length_le (by have := HK.out; omega)] at this
        rw [this]; rfl, rfl⟩

/-- What became of all that came. -/
structure Cnt where
  taken : Int
  unsealed : Int
  outside : Int
  challenged : Int
  limited : Int
  removed : Int
  malformed : Int
  unknown : Int
  refused : Int
  begun : Int
/-- A host's own block. -/
structure HostC where
  cnt : Cnt
  set : Cfg
  k0 : Int
  k1 : Int
  drawn : Int
  ports : Value
  conns : Nat
  next : Int
  post : Value
def HostC.cells (h : HostC) : Array Value := #[.int .i64 h.cnt.taken, .int .i64 h.cnt.unsealed, .int .i64 h.cnt.outside, .int .i64 h.cnt.challenged, .int .i64 h.cnt.limited, .int .i64 h.cnt.removed, .int .i64 h.cnt.malformed, .int .i64 h.cnt.unknown, .int .i64 h.cnt.refused, .int .i64 h.cnt.begun,
  .int .i64 h.set.ports, .int .i64 h.set.half, .int .i64 h.set.conns, .int .i64 h.set.flows, .int .i64 h.set.buffer, .int .i64 h.set.chunks, .int .i64 h.set.addrs, .int .i64 h.set.paths, .int .i64 h.set.mss, .int .i64 h.set.silence, .int .i64 h.set.keep, .int .i64 h.set.burst, .int .i64 h.set.rate, .int .i64 h.set.score, .int .i64 h.set.policy,
  .int .u64 h.k0, .int .u64 h.k1, .int .u64 h.drawn, h.ports, .map (some h.conns), .int .i64 h.next, h.post]
def hostH (g : Nat) (h : HostC) : Nat × Obj := (g, .cells h.cells 73 (0, 0))
/-- A port's block. -/
def portH (g : Nat) (at_ : Int) (half ready : Value) : Nat × Obj := (g, .cells #[.int .i64 at_, half, ready] 98 (0, 0))
/-- The ports' blocks are among these. -/
def PortsIn (P : List (Nat × Int)) (R : List (Nat × Obj)) : Prop := ∀ p ∈ P, ∃ half ready, portH p.1 p.2 half ready ∈ R
theorem PortsIn.at_ {P : List (Nat × Int)} {W w : World} {H R : List (Nat × Obj)} (h : PortsIn P R) (hp : Hp W w H) (hR : ∀ p ∈ R, p ∈ H) : ∀ p ∈ P, w.cell? ⟨p.1, 0, none⟩ = some (.int .i64 p.2) := by
  intro p hpm
  obtain ⟨half, ready, hm⟩ := h p hpm
  have hb : Blk w p.1 98 #[.int .i64 p.2, half, ready] := hp.mem (hR _ hm)
  rw [hb.cell]
  rfl
/-- What 'listener' asks, out of the fragment. -/
theorem listener_H {W w : World} {g : Nat} {h : HostC} {P : List (Nat × Int)} {H R : List (Nat × Obj)} (hp : Hp W w (hostH g h :: (H ++ R))) (hs : SlH 78 1 h.ports P.length (P.map fun p => ptr p.1) H) (hP : PortsIn P R) (at_ : Int) :
    Calls Tryz.prog 25 #[.pointer (some ⟨g, 0, none⟩), .int .i64 at_] w fun e w' => e = .returned (optPtr (findPort P at_)) ∧ w = w' := by
  obtain ⟨A, c, hv, h1, h2, h3⟩ := hs.form
  have hb := hp.head.cell 28
  rw [hv] at hs
  refine listener_any g at_ w A c P (by rw [hb, ← hv]; rfl) h1 h2 (hs.row hp.tail) (hP.at_ hp fun p hm => by simp [hm])

theorem info_port : (Tryz.prog.info? 78).map (fun i => (i.zero, i.size, i.bytes)) = some (some (.pointer none), 1, 8) := by kernel_rfl
theorem und_ports : Tryz.prog.underlying 71 = some (.slice 78) := by kernel_rfl

theorem listen_bad (g : Nat) (at_ : Int) (w : World) (hb : win at_ 1 65535 = false) :
    Calls Tryz.prog 15 #[.pointer (some ⟨g, 0, none⟩), .int .i64 at_] w fun e w' => e = .returned (.int .i64 202) ∧ w = w' := by
  go_enter Tryz.func15, Tryz.ntmps15
  go_wp2_with ((with_reducible refine (good_any _ _).mono ?_); rintro e w' ⟨rfl, rfl⟩)
  go_ret
  exact ⟨rfl, rfl⟩
theorem listen_taken {W w : World} {g : Nat} {h : HostC} {P : List (Nat × Int)} {H R : List (Nat × Obj)} (hp : Hp W w (hostH g h :: (H ++ R))) (hs : SlH 78 1 h.ports P.length (P.map fun p => ptr p.1) H) (hP : PortsIn P R) (at_ : Int)
    (hb : win at_ 1 65535 = true) (q : Nat) (hq : findPort P at_ = some q) :
    Calls Tryz.prog 15 #[.pointer (some ⟨g, 0, none⟩), .int .i64 at_] w fun e w' => e = .returned (.int .i64 202) ∧ w = w' := by
  have hl := listener_H hp hs hP at_
  rw [hq] at hl
  have HL := Lib.hid hl
  clear hl hq
  go_enter Tryz.func15, Tryz.ntmps15
  go_wp2_with (first | ((with_reducible refine (good_any _ _).mono ?_); rintro e w' ⟨rfl, rfl⟩) | (refine HL.out.mono ?_; rintro e w' ⟨rfl, rfl⟩; simp only [optPtr, Option.map_some]))
  go_ret
  exact ⟨rfl, rfl⟩
end Go.Proofs.YtnmpafcflfjhgaaGreat

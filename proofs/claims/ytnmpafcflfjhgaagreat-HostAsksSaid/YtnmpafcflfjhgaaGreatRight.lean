/- Which configurations may be: what host.Right, broughamref22.Right and host.New answer. -/
import Derived.Test.YtnmpafcflfjhgaaGreatBase
namespace Go.Proofs.YtnmpafcflfjhgaaGreat
open Go.RowKit

def win (n lo hi : Int) : Bool := decide (lo ≤ n) && decide (n ≤ hi)
theorem win_mk {n lo hi : Int} (h1 : lo ≤ n) (h2 : n ≤ hi) : win n lo hi = true := by simp [win, h1, h2]
theorem win_of {n lo hi : Int} (h : win n lo hi = true) : lo ≤ n ∧ n ≤ hi := by simpa [win] using h

theorem within_any (n lo hi : Int) (w : World) : Calls Tryz.prog 21 #[.int .i64 n, .int .i64 lo, .int .i64 hi] w fun e w' => e = .returned (.bool (win n lo hi)) ∧ w = w' := by
  unfold win
  by_cases h : lo ≤ n
  · go_enter Tryz.func21, Tryz.ntmps21
    go_wp2
    go_ret
    simp [h]
  · go_enter Tryz.func21, Tryz.ntmps21
    go_wp2
    go_ret
    simp
    omega
theorem refWithin_any (n lo hi : Int) (w : World) : Calls Tryz.prog 20 #[.int .i64 n, .int .i64 lo, .int .i64 hi] w fun e w' => e = .returned (.bool (win n lo hi)) ∧ w = w' := by
  unfold win
  by_cases h : lo ≤ n
  · go_enter Tryz.func20, Tryz.ntmps20
    go_wp2
    go_ret
    simp [h]
  · go_enter Tryz.func20, Tryz.ntmps20
    go_wp2
    go_ret
    simp
    omega

/-- A configuration. -/
structure Cfg where
  ports : Int
  half : Int
  conns : Int
  flows : Int
  buffer : Int
  chunks : Int
  addrs : Int
  paths : Int
  mss : Int
  silence : Int
  keep : Int
  burst : Int
  rate : Int
  score : Int
  policy : Int
def Cfg.cells (c : Cfg) : Array Value := #[.int .i64 c.ports, .int .i64 c.half, .int .i64 c.conns, .int .i64 c.flows, .int .i64 c.buffer, .int .i64 c.chunks, .int .i64 c.addrs, .int .i64 c.paths, .int .i64 c.mss, .int .i64 c.silence, .int .i64 c.keep, .int .i64 c.burst, .int .i64 c.rate, .int .i64 c.score, .int .i64 c.policy]
def Cfg.many (c : Cfg) : Bool := win c.ports 0 8 && win c.half 0 8 && win c.conns 0 8 && win c.flows 1 4
def Cfg.size (c : Cfg) : Bool := win c.buffer 1 4096 && win c.chunks 1 64 && win c.addrs 0 8 && win c.paths 1 4 && win c.mss 1 1024
def Cfg.time (c : Cfg) : Bool := win c.keep 1 4096 && win c.silence 2 4096 && decide (c.keep < c.silence)
def Cfg.rest (c : Cfg) : Bool := win c.burst 0 4096 && win c.rate 0 4096 && win c.score 1 4096 && decide (1 ≤ c.policy) && decide (c.policy ≤ 3)
def Cfg.right (c : Cfg) : Bool := c.many && c.size && c.time && c.rest
/-- The error's number of a configuration. -/
def Cfg.errno (c : Cfg) : Int := if c.right then 0 else 200

set_option maxHeartbeats 2000000 in
set_option maxRecDepth 10000 in
theorem right_any (c : Cfg) (w : World) : Calls Tryz.prog 8 #[.agg c.cells] w fun e w' => e = .returned (.int .i64 c.errno) ∧ w' = w.alloc (.cells c.cells 24 (0, 0)) := by
  unfold Cfg.cells
  go_enter Tryz.func8, Tryz.ntmps8
  go_upto_region 2 with fail
  go_cut [4] (fun s4 wx => s4 = .bool c.many ∧ wx = w.alloc (.cells c.cells 24 (0, 0)))
  case first =>
    go_wp2_with ((with_reducible refine (within_any _ _ _ _).mono ?_); rintro e w' ⟨rfl, rfl⟩)
    all_goals (go_meet; exact ⟨by simp [Cfg.many, *], rfl⟩)
  case rest =>
    obtain ⟨rfl, rfl⟩ := hcut
    unfold Cfg.cells
    go_upto_region 3 with fail
    go_cut [5] (fun s5 wx => s5 = .bool c.size ∧ wx = w.alloc (.cells c.cells 24 (0, 0)))
    case first =>
      go_wp2_with ((with_reducible refine (within_any _ _ _ _).mono ?_); rintro e w' ⟨rfl, rfl⟩)
      all_goals (go_meet; exact ⟨by simp [Cfg.size, *], rfl⟩)
    case rest =>
      obtain ⟨rfl, rfl⟩ := hcut
      unfold Cfg.cells
      go_upto_region 4 with fail
      go_cut [6] (fun s6 wx => s6 = .bool c.time ∧ wx = w.alloc (.cells c.cells 24 (0, 0)))
      case first =>
        go_wp2_with ((with_reducible refine (within_any _ _ _ _).mono ?_); rintro e w' ⟨rfl, rfl⟩)
        all_goals (go_meet; exact ⟨by simp [Cfg.time, *] <;> omega, rfl⟩)
      case rest =>
        obtain ⟨rfl, rfl⟩ := hcut
        unfold Cfg.cells
        go_upto_region 5 with fail
        go_cut [7] (fun s7 wx => s7 = .bool c.rest ∧ wx = w.alloc (.cells c.cells 24 (0, 0)))
        case first =>
          go_wp2_with ((with_reducible refine (within_any _ _ _ _).mono ?_); rintro e w' ⟨rfl, rfl⟩)
          all_goals (go_meet; exact ⟨by simp [Cfg.rest, *] <;> omega, rfl⟩)
        case rest =>
          obtain ⟨rfl, rfl⟩ := hcut
          cases hm : c.many <;> cases hs : c.size <;> cases ht : c.time <;> cases hr : c.rest <;> (go_wp2; go_ret; exact ⟨ret_int (by simp [Cfg.errno, Cfg.right, hm, hs, ht, hr]), rfl⟩)
end Go.Proofs.YtnmpafcflfjhgaaGreat

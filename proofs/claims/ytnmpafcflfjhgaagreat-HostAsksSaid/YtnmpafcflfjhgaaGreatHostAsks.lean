/- broughamlaw23.HostAsks answers true: a host that asks for a connection sends one packet, as the document says. No condition. -/
import Derived.Test.YtnmpafcflfjhgaaGreatConnect
import Derived.Test.YtnmpafcflfjhgaaGreatRef2
import Derived.Test.YtnmpafcflfjhgaaGreatHostRight
import Derived.Laws.IdiomStrings
import Derived.Lib.BufferRead
namespace Go.Proofs.YtnmpafcflfjhgaaGreat
open Go.Joins Go.ChangeShapes Go.WideShapes Go.ChangeAt Go.RowKit Go.Deep

theorem und_string : Tryz.prog.underlying 9 = some .string := by kernel_rfl
theorem und_byte : Tryz.prog.underlying 5 = some (.int .u8) := by kernel_rfl
/-- Bytes as a text. -/
theorem run_text {w : World} {v : Value} {l : List UInt8} (h : BytesAt w v l) : (convert 44 9 v).run Tryz.prog w = .ok (.string ⟨l.toArray⟩) w := by
  obtain ⟨A, c, rfl, _, _, hx⟩ := h
  by_cases h0 : l = []
  · subst h0
    rcases A with _ | a
    · exact Go.Lib.run_convert_nil_bytes w _ _ _ c und_bytes und_byte und_string
    · exact run_convert_bytes_back w _ _ 5 a c [] und_bytes und_byte und_string (fun j hj => absurd hj (Nat.not_lt_zero _))
  · have hl : 0 < l.length := List.length_pos_iff.2 h0
    obtain ⟨g, off, rfl, _⟩ := hx 0 hl
    refine run_convert_bytes_back w _ _ 5 ⟨g, off, none⟩ c l und_bytes und_byte und_string fun j hj => ?_
    obtain ⟨g', off', e, hc⟩ := hx j hj
    injection e with e
    injection e with e1 e2
    subst e1; subst e2
    have e3 : (⟨g, off, none⟩ : Addr).add j = ⟨g, off + j, none⟩ := by
      unfold Addr.add
      split
      · rename_i h0; subst h0; rfl
      · rfl
    rw [e3]
    exact hc
set_option maxHeartbeats 1000000 in
set_option maxRecDepth 10000 in
theorem hostPost_any (W w : World) (g : Nat) (h : HostC) (R : Hh) (A : Option Addr) (n c : Nat) (hp : Hp W w (hostH g h :: R)) (hv : h.post = .slice A n c) :
    Calls Tryz.prog 11 #[.pointer (some ⟨g, 0, none⟩)] w fun e w' => e = .returned (.slice A n c) ∧ Hp W w' (hostH g { h with post := .slice none 0 0 } :: R) := by
  have hx0 : w.cell? ⟨g, 31, none⟩ = some (.slice A n c) := by rw [hp.head.cell, ← hv]; rfl
  have hxf := hp.head.frozen 31
  have hxl := hp.head.lt
  have HP := Lib.hid (hp.set_ 31 (.slice none 0 0))
  clear hp hv
  go_enter Tryz.func11, Tryz.ntmps11
  go_wp2
  go_ret
  exact ⟨rfl, HP.out⟩
structure AskOp where
  kind : Int
  a : Int
  b : Int
  path : Int
def AskOp.cells (o : AskOp) : Array Value := #[.int .i64 o.kind, .int .i64 o.a, .int .i64 o.b, .int .i64 o.path]
def asksGuard (c : Cfg) (o : AskOp) : Prop := c.right = true ∧ ¬ c.conns = 0 ∧ 1 ≤ o.a ∧ o.a ≤ 65535 ∧ 1 ≤ o.b ∧ o.b ≤ 65535 ∧ 0 ≤ o.path ∧ o.path < c.paths
set_option maxHeartbeats 4000000 in
set_option maxRecDepth 10000 in
theorem asks_not (c : Cfg) (o : AskOp) (k0 k1 : Int) (W : World) (hg : ¬ asksGuard c o) : Calls Tryz.prog 4 #[.agg c.cells, .agg #[.int .u64 k0, .int .u64 k1], .agg o.cells] W fun e w' => e = .returned (.bool true) ∧ Below W.heap.size W w' := by
  have href := fun w => refRight_any c w
  unfold asksGuard at hg
  by_cases h1 : c.right = true
  · simp only [h1] at href
    have HF := Lib.hid href
    simp only [h1, true_and] at hg
    clear href h1
    unfold Cfg.cells AskOp.cells at *
    obtain ⟨cp, ch, cc, cf, cb, ck, ca, cpa, cm, cs, cke, cbu, cr, csc, cpo⟩ := c
    obtain ⟨okd, oa, ob, op⟩ := o
    simp only at *
    by_cases hq1 : cc = 0
    · clear hg
      subst hq1
      go_enter Tryz.func4, Tryz.ntmps4
      go_wp2_with (go_at_call 7; refine (HF.out _).mono ?_; rintro e w2 ⟨rfl, rfl⟩)
      go_ret
      exact ⟨rfl, (by repeat (first | exact Below.refl _ _ | assumption | (refine Below.alloc ?_ (by (try simp) <;> omega) _) | (refine Below.setCell ?_ (by (try simp) <;> omega) _) | refine Below.drew ?_))⟩
    have hz : (cc == 0) = false := by simpa using hq1
    by_cases hq2 : oa < 1
    · clear hg
      go_enter Tryz.func4, Tryz.ntmps4
      go_wp2_with (go_at_call 7; refine (HF.out _).mono ?_; rintro e w2 ⟨rfl, rfl⟩)
      go_ret
      exact ⟨rfl, (by repeat (first | exact Below.refl _ _ | assumption | (refine Below.alloc ?_ (by (try simp) <;> omega) _) | (refine Below.setCell ?_ (by (try simp) <;> omega) _) | refine Below.drew ?_))⟩
    by_cases hq3 : 65535 < oa
    · clear hg
      go_enter Tryz.func4, Tryz.ntmps4
      go_wp2_with (go_at_call 7; refine (HF.out _).mono ?_; rintro e w2 ⟨rfl, rfl⟩)
      go_ret
      exact ⟨rfl, (by repeat (first | exact Below.refl _ _ | assumption | (refine Below.alloc ?_ (by (try simp) <;> omega) _) | (refine Below.setCell ?_ (by (try simp) <;> omega) _) | refine Below.drew ?_))⟩
    by_cases hq4 : ob < 1
    · clear hg
      go_enter Tryz.func4, Tryz.ntmps4
      go_wp2_with (go_at_call 7; refine (HF.out _).mono ?_; rintro e w2 ⟨rfl, rfl⟩)
      go_ret
      exact ⟨rfl, (by repeat (first | exact Below.refl _ _ | assumption | (refine Below.alloc ?_ (by (try simp) <;> omega) _) | (refine Below.setCell ?_ (by (try simp) <;> omega) _) | refine Below.drew ?_))⟩
    by_cases hq5 : 65535 < ob
    · clear hg
      go_enter Tryz.func4, Tryz.ntmps4
      go_wp2_with (go_at_call 7; refine (HF.out _).mono ?_; rintro e w2 ⟨rfl, rfl⟩)
      go_ret
      exact ⟨rfl, (by repeat (first | exact Below.refl _ _ | assumption | (refine Below.alloc ?_ (by (try simp) <;> omega) _) | (refine Below.setCell ?_ (by (try simp) <;> omega) _) | refine Below.drew ?_))⟩
    by_cases hq6 : op < 0
    · clear hg
      go_enter Tryz.func4, Tryz.ntmps4
      go_wp2_with (go_at_call 7; refine (HF.out _).mono ?_; rintro e w2 ⟨rfl, rfl⟩)
      go_ret
      exact ⟨rfl, (by repeat (first | exact Below.refl _ _ | assumption | (refine Below.alloc ?_ (by (try simp) <;> omega) _) | (refine Below.setCell ?_ (by (try simp) <;> omega) _) | refine Below.drew ?_))⟩
    by_cases hq7 : cpa ≤ op
    · clear hg
      go_enter Tryz.func4, Tryz.ntmps4
      go_wp2_with (go_at_call 7; refine (HF.out _).mono ?_; rintro e w2 ⟨rfl, rfl⟩)
      go_ret
      exact ⟨rfl, (by repeat (first | exact Below.refl _ _ | assumption | (refine Below.alloc ?_ (by (try simp) <;> omega) _) | (refine Below.setCell ?_ (by (try simp) <;> omega) _) | refine Below.drew ?_))⟩
    exact absurd ⟨hq1, by omega, by omega, by omega, by omega, by omega, by omega⟩ hg
  · simp only [Bool.not_eq_true] at h1
    simp only [h1] at href
    have HF := Lib.hid href
    clear href h1 hg
    unfold Cfg.cells AskOp.cells at *
    go_enter Tryz.func4, Tryz.ntmps4
    go_wp2_with (go_at_call 7; refine (HF.out _).mono ?_; rintro e w2 ⟨rfl, rfl⟩)
    go_ret
    exact ⟨rfl, (by repeat (first | exact Below.refl _ _ | assumption | (refine Below.alloc ?_ (by (try simp) <;> omega) _) | (refine Below.setCell ?_ (by (try simp) <;> omega) _) | refine Below.drew ?_))⟩
end Go.Proofs.YtnmpafcflfjhgaaGreat

/- broughamlaw23.HostRight answers true for every configuration: which configurations may be is what broughamref22.Right says. No condition. -/
import Derived.Test.YtnmpafcflfjhgaaGreatLaw
import Derived.Test.YtnmpafcflfjhgaaGreatAlive
namespace Go.Proofs.YtnmpafcflfjhgaaGreat
open Go.Joins Go.ChangeShapes Go.WideShapes Go.ChangeAt Go.RowKit Go.Deep

set_option maxHeartbeats 2000000 in
set_option maxRecDepth 10000 in
theorem refRight_any (c : Cfg) (w : World) : Calls Tryz.prog 7 #[.agg c.cells] w fun e w' => e = .returned (.bool c.right) ∧ w' = w.alloc (.cells c.cells 24 (0, 0)) := by
  unfold Cfg.cells
  go_enter Tryz.func7, Tryz.ntmps7
  go_upto_region 1 with fail
  go_cut [3] (fun s3 wx => s3 = .bool (c.many && (win c.addrs 0 8 && win c.paths 1 4)) ∧ wx = w.alloc (.cells c.cells 24 (0, 0)))
  case first =>
    go_wp2_with ((with_reducible refine (refWithin_any _ _ _ _).mono ?_); rintro e w' ⟨rfl, rfl⟩)
    all_goals (go_meet; exact ⟨by simp [Cfg.many, *], rfl⟩)
  case rest =>
    obtain ⟨rfl, rfl⟩ := hcut
    unfold Cfg.cells
    go_upto_region 2 with fail
    go_cut [4] (fun s4 wx => s4 = .bool (win c.buffer 1 4096 && win c.chunks 1 64 && win c.mss 1 1024) ∧ wx = w.alloc (.cells c.cells 24 (0, 0)))
    case first =>
      go_wp2_with ((with_reducible refine (refWithin_any _ _ _ _).mono ?_); rintro e w' ⟨rfl, rfl⟩)
      all_goals (go_meet; exact ⟨by simp [*], rfl⟩)
    case rest =>
      obtain ⟨rfl, rfl⟩ := hcut
      unfold Cfg.cells
      go_upto_region 3 with fail
      go_cut [5] (fun s5 wx => s5 = .bool (win c.silence 2 4096 && win c.keep 1 4096 && decide (c.keep < c.silence)) ∧ wx = w.alloc (.cells c.cells 24 (0, 0)))
      case first =>
        go_wp2_with ((with_reducible refine (refWithin_any _ _ _ _).mono ?_); rintro e w' ⟨rfl, rfl⟩)
        all_goals (go_meet; exact ⟨by simp [*] <;> omega, rfl⟩)
      case rest =>
        obtain ⟨rfl, rfl⟩ := hcut
        unfold Cfg.cells
        have hr : c.right = ((c.many && (win c.addrs 0 8 && win c.paths 1 4)) && (win c.buffer 1 4096 && win c.chunks 1 64 && win c.mss 1 1024) && (win c.silence 2 4096 && win c.keep 1 4096 && decide (c.keep < c.silence)) && win c.burst 0 4096 && win c.rate 0 4096 && win c.score 1 4096 && win c.policy 1 3) := by
          have e : (decide (1 ≤ c.policy) && decide (c.policy ≤ 3)) = win c.policy 1 3 := rfl
          unfold Cfg.right Cfg.size Cfg.time Cfg.rest
          rw [Bool.and_assoc (win c.burst 0 4096 && win c.rate 0 4096 && win c.score 1 4096), e]
          cases c.many <;> cases win c.addrs 0 8 <;> cases win c.paths 1 4 <;> cases win c.buffer 1 4096 <;> cases win c.chunks 1 64 <;> cases win c.mss 1 1024 <;> cases win c.keep 1 4096 <;> cases win c.silence 2 4096 <;> simp [Bool.and_assoc]
        have HR := Lib.hid hr
        clear hr
        generalize hq1 : (c.many && (win c.addrs 0 8 && win c.paths 1 4)) = q1 at HR ⊢
        generalize hq2 : (win c.buffer 1 4096 && win c.chunks 1 64 && win c.mss 1 1024) = q2 at HR ⊢
        generalize hq3 : (win c.silence 2 4096 && win c.keep 1 4096 && decide (c.keep < c.silence)) = q3 at HR ⊢
        clear hq1 hq2 hq3
        cases q1 <;> cases q2 <;> cases q3
        all_goals
          go_wp2_with ((with_reducible refine (refWithin_any _ _ _ _).mono ?_); rintro e w' ⟨rfl, rfl⟩)
          all_goals
            go_ret
            exact ⟨ret_bool (by rw [HR.out]; simp [*]), rfl⟩

set_option maxHeartbeats 2000000 in
set_option maxRecDepth 10000 in
theorem hostRight_walk (c : Cfg) (W : World) : Calls Tryz.prog 3 #[.agg c.cells] W fun e w' => e = .returned (.bool true) ∧ Below W.heap.size W w' := by
  have hright := fun w => right_any c w
  have href := fun w => refRight_any c w
  cases hr : c.right
  · have he : c.errno = 200 := by simp [Cfg.errno, hr]
    simp only [he] at hright
    simp only [hr] at href
    have hnew := fun w => new_bad c (.agg #[.int .u64 0, .int .u64 0]) ⟨_, _, rfl⟩ w hr
    have HR := Lib.hid hright
    have HF := Lib.hid href
    have HN := Lib.hid hnew
    clear hright href hnew he hr
    unfold Cfg.cells at *
    go_enter Tryz.func3, Tryz.ntmps3
    go_wp2_with (first
      | (go_at_call 6; refine (HN.out _).mono ?_; rintro e w1 ⟨rfl, hb1⟩; (
          obtain ⟨hc, hf⟩ := bcell hb1
          have hz := hb1.size
          have hlt : W.heap.size < w1.heap.size := by simp at hz; omega
          have hb2 : Below W.heap.size W w1 := ((Below.refl _ _).alloc (Nat.le_refl _) _).trans (hb1.mono (by simp))
          clear hb1))
      | (go_at_call 7; refine (HF.out _).mono ?_; rintro e w2 ⟨rfl, rfl⟩)
      | (go_at_call 8; refine (HR.out _).mono ?_; rintro e w2 ⟨rfl, rfl⟩)
      | (go_at_call 9; refine (alive_any _).mono ?_; rintro e w3 ⟨rfl, hb3⟩))
    go_ret
    exact ⟨rfl, Below.trans (B := W.heap.size) (by repeat (first | exact Below.refl _ _ | assumption | (refine Below.alloc ?_ (by (try simp) <;> omega) _) | (refine Below.setCell ?_ (by (try simp) <;> omega) _) | refine Below.drew ?_)) (hb3.mono (by (try simp) <;> omega))⟩
  · have he : c.errno = 0 := by simp [Cfg.errno, hr]
    simp only [he] at hright
    simp only [hr] at href
    have hnew := fun w (hp : Hp W w [(W.heap.size, .cells c.cells 24 (0, 0))]) => new_ok hp c 0 0 hr
    have HR := Lib.hid hright
    have HF := Lib.hid href
    have HN := Lib.hid hnew
    clear hright href hnew he hr
    unfold Cfg.cells at *
    go_enter Tryz.func3, Tryz.ntmps3
    go_wp2_with (first
      | (go_at_call 6; refine (HN.out _ ((Hp.refl W).alloc _)).mono ?_; rintro e w1 ⟨g, m, rfl, hp1⟩; (
          have hb2 := hp1.below
          have hz := hb2.size
          have hg := hp1.head.lt
          have hgW := hp1.base (.head _)
          have hk := hp1.tail.tail.head.cell
          have hlt : W.heap.size < w1.heap.size := hp1.tail.tail.head.lt
          clear hp1))
      | (go_at_call 7; refine (HF.out _).mono ?_; rintro e w2 ⟨rfl, rfl⟩)
      | (go_at_call 8; refine (HR.out _).mono ?_; rintro e w2 ⟨rfl, rfl⟩)
      | (go_at_call 9; refine (alive_any _).mono ?_; rintro e w3 ⟨rfl, hb3⟩))
    go_ret
    exact ⟨rfl, Below.trans (B := W.heap.size) (by repeat (first | exact Below.refl _ _ | assumption | (refine Below.alloc ?_ (by (try simp) <;> omega) _) | (refine Below.setCell ?_ (by (try simp) <;> omega) _) | refine Below.drew ?_)) (hb3.mono (by (try simp) <;> omega))⟩

set_option maxRecDepth 100000 in
theorem hostRight_lifted (os : Os) (started : os.Started) (H : Type) (enc : TypeId × Value → H) :
    ReturnsInHanded {} Tryz.checked os 3 .any (Rows.hostRightSpec.pre6 enc Tryz.prog Tryz.f3 Rows.hostRightRow.domain false) (Rows.hostRightSpec.post enc Tryz.prog Tryz.f3 false true false false) := by
  refine returnsInHanded_of_change (C := Tryz.checked) Tryz.own started (by kernel_rfl) Tryz.func3
    (ChangeSpec.witness6 (enc := enc) (C := Tryz.checked) false ⟨#[], #[.agg (Array.replicate 15 (.int .i64 0))], []⟩ 8 (by kernel_rfl) (by kernel_rfl) (by kernel_rfl) (by kernel_rfl)) ?_
  intro W base args ds gs before hval0 hW hcnd _
  have hval : ∀ (j : Nat) t v, Tryz.f3.params[j]? = some t → args[j]? = some v → Value.okWide Tryz.prog W .any base t v := hval0
  have hW' := hW
  obtain ⟨p, q, hA0, hV, rfl, hfz, hnd⟩ := hW
  have hA : DataW.TrodAll enc Tryz.prog W 0 (fun _ => true) true Tryz.f3.params.toList args.toList ds p := hA0
  rw [ Tryz.params3 ] at hA hval
  obtain ⟨v0, d0, rfl, rfl, h0⟩ := trodAll_one hA
  obtain ⟨rfl, rfl⟩ := trodVars_none hV
  obtain ⟨c, rfl, rfl, wc⟩ := open_cfg (hval 0 _ v0 rfl rfl) h0
  clear hA0 hval0
  refine (hostRight_walk c W).mono fun e W' ⟨he, hb⟩ => ?_
  subst he
  exact ⟨_, rfl, law_post1 (p0 := []) (by kernel_rfl) (by kernel_rfl) rfl rfl (by kernel_rfl) (of_decide_eq_true (by kernel_rfl)) hW' h0 hb⟩

theorem hostRight_holds : Rows.HostRightSaid :=
  OpenClaim.holds_of_wide 3 Tryz.f3 rfl rfl rfl rfl rfl rfl rfl ⟨rfl, rfl, rfl, rfl, rfl⟩ rfl rfl rfl rfl rfl (by kernel_rfl) Tryz.func3 (by kernel_rfl)
    (of_decide_eq_true (by kernel_rfl)) (by unfold Func.isWrapper; first | (rw [if_pos (by decide +kernel)]; kernel_rfl) | (rw [if_neg (by decide +kernel)]; exact ⟨rfl, rfl⟩))
    (fun os started H enc _ => hostRight_lifted os started H enc)
#print axioms hostRight_holds
end Go.Proofs.YtnmpafcflfjhgaaGreat

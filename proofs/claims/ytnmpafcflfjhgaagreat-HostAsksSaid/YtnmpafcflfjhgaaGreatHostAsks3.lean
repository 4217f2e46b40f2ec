/- broughamlaw23.HostAsks answers true for every configuration, seed and call: what a host sends that asks for a connection is one packet, on the path, with the number and the key that its seed draws. No condition. -/
import Derived.Test.YtnmpafcflfjhgaaGreatHostAsks2
import Derived.Test.YtnmpafcflfjhgaaGreatLaw3
namespace Go.Proofs.YtnmpafcflfjhgaaGreat
open Go.Joins Go.ChangeShapes Go.WideShapes Go.ChangeAt Go.RowKit Go.Deep

theorem kinds_askop : kindFields Tryz.prog 36 (List.replicate 4 .i64) = true := by kernel_rfl
set_option maxRecDepth 10000 in
theorem open_askop {H : Type} {enc : TypeId × Value → H} {w : World} {base : Nat} {spare : Nat → Bool} {held : Bool} {r : Reach} {b0 : Nat} {v : Value} {d : DataW H} {p : List MemPlace}
    (hv : Value.okWide Tryz.prog w r b0 36 v) (h : DataW.Trod enc Tryz.prog w base spare held 36 v d p) : ∃ o : AskOp, v = .agg o.cells ∧ p = [] := by
  obtain ⟨ns, hl, hval, hp, hw⟩ := open_kinds _ kinds_askop hv h
  match ns, hl with
  | [a0, a1, a2, a3], _ => exact ⟨⟨a0, a1, a2, a3⟩, hval, hp⟩
theorem hostAsks_walk (c : Cfg) (o : AskOp) (k0 k1 : Int) (W : World) : Calls Tryz.prog 4 #[.agg c.cells, .agg #[.int .u64 k0, .int .u64 k1], .agg o.cells] W fun e w' => e = .returned (.bool true) ∧ Below W.heap.size W w' := by
  by_cases hg : asksGuard c o
  · exact asks_main c o k0 k1 W hg
  · exact asks_not c o k0 k1 W hg
set_option maxRecDepth 100000 in
theorem hostAsks_lifted (os : Os) (started : os.Started) (H : Type) (enc : TypeId × Value → H) :
    ReturnsInHanded {} Tryz.checked os 4 .any (Rows.hostAsksSpec.pre6 enc Tryz.prog Tryz.f4 Rows.hostAsksRow.domain false) (Rows.hostAsksSpec.post enc Tryz.prog Tryz.f4 false true false false) := by
  refine returnsInHanded_of_change (C := Tryz.checked) Tryz.own started (by kernel_rfl) Tryz.func4
    (ChangeSpec.witness6 (enc := enc) (C := Tryz.checked) false ⟨#[], #[.agg (Array.replicate 15 (.int .i64 0)), .agg (Array.replicate 2 (.int .u64 0)), .agg (Array.replicate 4 (.int .i64 0))], []⟩ 8 (by kernel_rfl) (by kernel_rfl) (by kernel_rfl) (by kernel_rfl)) ?_
  intro W base args ds gs before hval0 hW hcnd _
  have hval : ∀ (j : Nat) t v, Tryz.f4.params[j]? = some t → args[j]? = some v → Value.okWide Tryz.prog W .any base t v := hval0
  have hW' := hW
  obtain ⟨p, q, hA0, hV, rfl, hfz, hnd⟩ := hW
  have hA : DataW.TrodAll enc Tryz.prog W 0 (fun _ => true) true Tryz.f4.params.toList args.toList ds p := hA0
  rw [ Tryz.params4 ] at hA hval
  obtain ⟨v0, v1, v2, d0, d1, d2, p0, p1, p2, rfl, rfl, rfl, h0, h1, h2⟩ := trodAll_three hA
  obtain ⟨rfl, rfl⟩ := trodVars_none hV
  obtain ⟨c, rfl, rfl, wc⟩ := open_cfg (hval 0 _ v0 rfl rfl) h0
  obtain ⟨k0, k1, rfl, rfl, _, _⟩ := open_pair (hval 1 _ v1 rfl rfl) h1
  obtain ⟨o, rfl, rfl⟩ := open_askop (hval 2 _ v2 rfl rfl) h2
  clear hA0 hval0
  refine (hostAsks_walk c o k0 k1 W).mono fun e W' ⟨he, hb⟩ => ?_
  subst he
  exact ⟨_, rfl, law_post3 (p0 := []) (p1 := []) (p2 := []) (by kernel_rfl) (by kernel_rfl) rfl rfl (by kernel_rfl) (of_decide_eq_true (by kernel_rfl)) (by kernel_rfl) (of_decide_eq_true (by kernel_rfl)) (by kernel_rfl) (of_decide_eq_true (by kernel_rfl)) hW' h0 h1 h2 hb⟩

theorem hostAsks_holds : Rows.HostAsksSaid :=
  OpenClaim.holds_of_wide 4 Tryz.f4 rfl rfl rfl rfl rfl rfl rfl ⟨rfl, rfl, rfl, rfl, rfl⟩ rfl rfl rfl rfl rfl (by kernel_rfl) Tryz.func4 (by kernel_rfl)
    (of_decide_eq_true (by kernel_rfl)) (by unfold Func.isWrapper; first | (rw [if_pos (by decide +kernel)]; kernel_rfl) | (rw [if_neg (by decide +kernel)]; exact ⟨rfl, rfl⟩))
    (fun os started H enc _ => hostAsks_lifted os started H enc)
#print axioms hostAsks_holds
end Go.Proofs.YtnmpafcflfjhgaaGreat

/- What all rows of this seat share: how a configuration is read, and the row's last step. -/
import Derived.Test.YtnmpafcflfjhgaaGreatRows
import Derived.Test.YtnmpafcflfjhgaaGreatRight
import Derived.ProofKit
import Derived.Lib.SmallJoins
namespace Go.Proofs.YtnmpafcflfjhgaaGreat
open Go.Joins Go.ChangeShapes Go.WideShapes Go.ChangeAt Go.RowKit Go.Deep

/- A word out of the kit's page extra-small, section 9. -/
section
variable {H : Type} {enc : TypeId × Value → H} {P : Program}
theorem post_of_below {f : Func} {s : ChangeSpec} {apart fresh handsOn again : Bool} {W W' : World} {args : Array Value} {v : Value} {ds gs : List (DataW H)} {before pa pv : List MemPlace}
    (hW : DataW.Whole enc P f.params.toList s.vars apart W args.toList ds gs before)
    (hres : ∀ (b : Nat) (sp : Nat → Bool) (hd : Bool), DataW.TrodAll enc P W' b sp hd f.resultTypes.toList (v.resultList f.resultTypes.size) (s.fn H (ds ++ gs)).results [])
    (hargs : ∀ sp : Nat → Bool, (∀ p ∈ before, sp p.block = true) → DataW.TrodAll enc P W' 0 sp true f.params.toList args.toList (s.fn H (ds ++ gs)).args pa)
    (hvars : ∀ sp : Nat → Bool, (∀ p ∈ before, sp p.block = true) → DataW.TrodVars enc P W' sp s.vars (s.fn H (ds ++ gs)).vars pv)
    (hps : before = pa ++ pv) (hb : Below W.heap.size W W')
    (hok : ∀ (j : Nat) (t : TypeId) (r : Value), f.resultTypes[j]? = some t → (v.resultList f.resultTypes.size)[j]? = some r → Value.okWide P W' .any 0 t r) :
    s.post enc P f apart fresh handsOn again W args v W' := by
  have hlt : ∀ p ∈ before, p.block < W.heap.size := fun p hp => hW.lt p hp
  have hold : ∀ p ∈ before, (fun b => decide (b < W.heap.size)) p.block = true := fun p hp => by simpa using hlt p hp
  refine ⟨ds, gs, before, [], pa, pv, hW, hres _ _ _, hargs _ hold, hvars _ hold, World.keptBut_mono (fun p hp => ⟨hp, ?_⟩) (hb.frame (· ∈ before)), fun _ => ?_⟩
  · rw [hps, List.mem_append] at hp
    exact Or.inr hp
  · obtain ⟨_, _, _, _, _, hz, hn⟩ := hW
    refine ⟨hok, _, _, ([] ++ pa) ++ pv, ⟨[] ++ pa, pv, trodAll_append (hargs _ (fun _ _ => rfl)) (hres _ _ _), hvars _ (fun _ _ => rfl), rfl, ?_, ?_⟩, ?_⟩
    · intro b off hp
      have hin : MemPlace.cell b off ∈ before := by rw [hps]; simpa using hp
      rw [hb.frozen (hlt _ hin)]
      exact hz b off hin
    · intro ha
      have := hn ha
      rw [hps] at this
      simpa using this
    · intro p hp _
      rw [hps]
      simpa using hp
end

theorem Tryz.own : ownKnob Tryz.prog.godebug = none := by kernel_rfl
theorem Tryz.laidOut : laidOutB Tryz.prog = true := by kernel_rfl

/-- Do a struct's fields, one cell each, have these kinds of whole numbers? -/
def kindFields (P : Program) (t : TypeId) (ks : List IntKind) : Bool := match P.underlying t with
  | some (.struct fs) => P.cellsOf t == ks.length && fs.size == ks.length && (List.range ks.length).all fun i => match fs[i]? with
    | some f => f.offset == i && P.cellsOf f.type == 1 && (match P.underlying f.type with | some (.int k) => ks[i]? == some k | _ => false)
    | none => false
  | _ => false
def valInt : Option Value → Int | some (.int _ m) => m | _ => 0
def intCells (ks : List IntKind) (ns : List Int) : Array Value := ((ks.zip ns).map fun x => Value.int x.1 x.2).toArray
section
variable {H : Type} {enc : TypeId × Value → H} {P : Program} {w : World} {base : Nat} {spare : Nat → Bool} {held : Bool}
theorem open_kinds {r : Reach} {b0 : Nat} {t : TypeId} {v : Value} {d : DataW H} {p : List MemPlace} (ks : List IntKind) (hk : kindFields P t ks = true) (hv : Value.okWide P w r b0 t v) (h : DataW.Trod enc P w base spare held t v d p) :
    ∃ ns : List Int, ns.length = ks.length ∧ v = .agg (intCells ks ns) ∧ p = [] ∧ ∀ (i : Nat) (k : IntKind) (n : Int), ks[i]? = some k → ns[i]? = some n → (Lit.int k n).wf = true := by
  unfold kindFields at hk
  split at hk
  · rename_i fs hs
    simp only [Bool.and_eq_true, beq_iff_eq, List.all_eq_true, List.mem_range] at hk
    obtain ⟨⟨hC, hsz⟩, hall⟩ := hk
    obtain ⟨cs, rfl, hcs⟩ := okWide_struct hs hv
    obtain ⟨fuel, hf⟩ := h
    obtain ⟨xs, n, _, hx, _, hlen, hg⟩ := DataW.trod_struct hs hf
    have key : ∀ i, i < ks.length → ∃ k m, ks[i]? = some k ∧ cs[i]? = some (.int k m) ∧ xs[i]? = some (.lit (.int k m), []) ∧ (Lit.int k m).wf = true := by
      intro i hi
      have h1 := hall i hi
      split at h1
      · rename_i f hfi
        simp only [Bool.and_eq_true, beq_iff_eq] at h1
        obtain ⟨⟨ho, hc1⟩, hu⟩ := h1
        split at hu
        · rename_i k hund
          have hki : ks[i]? = some k := by simpa using hu
          have h2 := hg i f hfi
          rw [ho, hc1] at h2
          have hxi : i < xs.length := by omega
          rw [List.getElem?_eq_getElem hxi] at h2
          obtain ⟨m, e1, e2, e3⟩ := DataW.trod_int hund h2
          refine ⟨k, m, hki, ?_, by rw [List.getElem?_eq_getElem hxi, e2], e3⟩
          have hci : i < cs.size := by omega
          have e4 : ((Value.agg cs).cells.toList.drop i).take 1 = [cs[i]] := by
            simp only [Value.cells]
            rw [List.drop_eq_getElem_cons (by simpa using hci)]
            simp
          rw [e4] at e1
          injection e1 with e5
          rw [Array.getElem?_eq_getElem hci, e5]
        · cases hu
      · cases h1
    refine ⟨(List.range ks.length).map fun i => valInt cs[i]?, by simp, ?_, ?_, ?_⟩
    · congr 1
      apply Array.ext_getElem?
      intro i
      by_cases hi : i < ks.length
      · obtain ⟨k, m, a1, a2, _, _⟩ := key i hi
        have a3 : ks[i] = k := by rw [List.getElem?_eq_getElem hi] at a1; injection a1
        rw [a2]
        simp [intCells, hi, a2, a3, valInt]
      · rw [Array.getElem?_eq_none (by omega)]
        rw [Array.getElem?_eq_none]
        simp [intCells]
        omega
    · simp only [Prod.mk.injEq] at hx
      rw [hx.2]
      rw [List.flatMap_eq_nil_iff]
      intro x hxm
      obtain ⟨i, hi, rfl⟩ := List.mem_iff_getElem.1 hxm
      obtain ⟨k, m, _, _, a3, _⟩ := key i (by omega)
      rw [List.getElem?_eq_getElem hi] at a3
      injection a3 with a3
      rw [a3]
    · intro i k m h1 h2
      have hi : i < ks.length := (List.getElem?_eq_some_iff.1 h1).1
      obtain ⟨k', m', a1, a2, _, a4⟩ := key i hi
      rw [h1] at a1
      injection a1 with a1
      subst a1
      rw [List.getElem?_map, List.getElem?_range hi] at h2
      simp only [Option.map_some, a2, valInt] at h2
      injection h2 with h2
      subst h2
      exact a4
  · cases hk
end
theorem wf_i64 {n : Int} (h : (Lit.int .i64 n).wf = true) : -9223372036854775808 ≤ n ∧ n ≤ 9223372036854775807 := by
  simp only [Lit.wf, IntKind.min, IntKind.max, IntKind.signed, IntKind.bits, Bool.and_eq_true, decide_eq_true_eq, if_true] at h
  omega
theorem wf_u64 {n : Int} (h : (Lit.int .u64 n).wf = true) : 0 ≤ n ∧ n ≤ 18446744073709551615 := by
  simp only [Lit.wf, IntKind.min, IntKind.max, IntKind.signed, IntKind.bits, Bool.and_eq_true, decide_eq_true_eq] at h
  simp at h
  omega
theorem kinds_cfg : kindFields Tryz.prog 24 (List.replicate 15 .i64) = true := by kernel_rfl
theorem kinds_pair : kindFields Tryz.prog 31 [.u64, .u64] = true := by kernel_rfl
/-- All of a configuration's numbers are ints. -/
def Cfg.wf (c : Cfg) : Prop := ∀ n ∈ [c.ports, c.half, c.conns, c.flows, c.buffer, c.chunks, c.addrs, c.paths, c.mss, c.silence, c.keep, c.burst, c.rate, c.score, c.policy], -9223372036854775808 ≤ n ∧ n ≤ 9223372036854775807
set_option maxRecDepth 10000 in
theorem open_cfg {H : Type} {enc : TypeId × Value → H} {w : World} {base : Nat} {spare : Nat → Bool} {held : Bool} {r : Reach} {b0 : Nat} {v : Value} {d : DataW H} {p : List MemPlace}
    (hv : Value.okWide Tryz.prog w r b0 24 v) (h : DataW.Trod enc Tryz.prog w base spare held 24 v d p) : ∃ c : Cfg, v = .agg c.cells ∧ p = [] ∧ c.wf := by
  obtain ⟨ns, hl, hval, hp, hw⟩ := open_kinds _ kinds_cfg hv h
  match ns, hl with
  | [a0, a1, a2, a3, a4, a5, a6, a7, a8, a9, a10, a11, a12, a13, a14], _ =>
    refine ⟨⟨a0, a1, a2, a3, a4, a5, a6, a7, a8, a9, a10, a11, a12, a13, a14⟩, hval, hp, ?_⟩
    intro n hn
    obtain ⟨i, hi, he⟩ := List.mem_iff_getElem.1 hn
    have hi' : i < 15 := hi
    exact wf_i64 (hw i .i64 n (List.getElem?_replicate_of_lt hi') (by rw [← he]; exact List.getElem?_eq_getElem hi))
set_option maxRecDepth 10000 in
theorem open_pair {H : Type} {enc : TypeId × Value → H} {w : World} {base : Nat} {spare : Nat → Bool} {held : Bool} {r : Reach} {b0 : Nat} {v : Value} {d : DataW H} {p : List MemPlace}
    (hv : Value.okWide Tryz.prog w r b0 31 v) (h : DataW.Trod enc Tryz.prog w base spare held 31 v d p) : ∃ a b : Int, v = .agg #[.int .u64 a, .int .u64 b] ∧ p = [] ∧ (0 ≤ a ∧ a ≤ 18446744073709551615) ∧ (0 ≤ b ∧ b ≤ 18446744073709551615) := by
  obtain ⟨ns, hl, hval, hp, hw⟩ := open_kinds _ kinds_pair hv h
  match ns, hl with
  | [a0, a1], _ => exact ⟨a0, a1, hval, hp, wf_u64 (hw 0 .u64 a0 rfl rfl), wf_u64 (hw 1 .u64 a1 rfl rfl)⟩

set_option maxRecDepth 100000 in
/-- The row's last step: true, and nothing below has turned. -/
theorem law_post1 {H : Type} {enc : TypeId × Value → H} {f : Func} {s : ChangeSpec} {W W' : World} {t0 : TypeId} {v0 : Value} {d0 : DataW H} {p0 : List MemPlace} (hparams : f.params = #[t0]) (hres : f.resultTypes = #[ 4 ]) (hvars : s.vars = [])
    (hspec : s.fn H [d0] = { results := [.lit (.bool true)], args := [d0] })
    (hr0 : Tryz.prog.readableRec t0 = true) (ht0 : t0 < Tryz.prog.types.size)
    (hW : DataW.Whole enc Tryz.prog f.params.toList s.vars false W [v0] [d0] [] (p0 ++ []))
    (h0 : DataW.Trod enc Tryz.prog W 0 (fun _ => true) true t0 v0 d0 p0) (hb : Below W.heap.size W W') :
    s.post enc Tryz.prog f false true false false W #[v0] (.bool true) W' := by
  have hlt : ∀ p ∈ p0, p.block < W.heap.size := fun p hp => hW.lt p (by simp [hp])
  refine post_of_below (pa := p0) (pv := []) hW ?_ ?_ ?_ rfl hb ?_
  · intro b sp hd
    rw [hres]
    simp only [List.append_nil, hspec]
    exact trodAll_mk1 (shut_bool (by kernel_rfl) true)
  · intro sp hsp
    rw [hparams]
    simp only [List.append_nil, hspec]
    exact trodAll_mk1 (WideElems.Trod_stays Tryz.laidOut hr0 ht0 h0 (fun x hx => hb.same (hlt x hx)) (fun x hx => hsp x (by simp [hx])))
  · intro sp hsp
    rw [hvars]
    simp only [List.append_nil, hspec]
    rfl
  · exact ok_one hres rfl (okWide_bool_mk (by kernel_rfl) true)
end Go.Proofs.YtnmpafcflfjhgaaGreat

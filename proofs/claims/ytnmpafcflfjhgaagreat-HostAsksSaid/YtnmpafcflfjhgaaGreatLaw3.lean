/- A row of three arguments: its last step. -/
import Derived.Test.YtnmpafcflfjhgaaGreatLaw
namespace Go.Proofs.YtnmpafcflfjhgaaGreat
open Go.Joins Go.ChangeShapes Go.WideShapes Go.ChangeAt Go.RowKit Go.Deep

set_option maxRecDepth 100000 in
/-- The row's last step, of three arguments: true, and nothing below has turned. -/
theorem law_post3 {H : Type} {enc : TypeId × Value → H} {f : Func} {s : ChangeSpec} {W W' : World} {t0 t1 t2 : TypeId} {v0 v1 v2 : Value} {d0 d1 d2 : DataW H} {p0 p1 p2 : List MemPlace} (hparams : f.params = #[t0, t1, t2]) (hres : f.resultTypes = #[ 4 ]) (hvars : s.vars = [])
    (hspec : s.fn H [d0, d1, d2] = { results := [.lit (.bool true)], args := [d0, d1, d2] })
    (hr0 : Tryz.prog.readableRec t0 = true) (ht0 : t0 < Tryz.prog.types.size) (hr1 : Tryz.prog.readableRec t1 = true) (ht1 : t1 < Tryz.prog.types.size) (hr2 : Tryz.prog.readableRec t2 = true) (ht2 : t2 < Tryz.prog.types.size)
    (hW : DataW.Whole enc Tryz.prog f.params.toList s.vars false W [v0, v1, v2] [d0, d1, d2] [] ((p0 ++ p1 ++ p2) ++ []))
    (h0 : DataW.Trod enc Tryz.prog W 0 (fun _ => true) true t0 v0 d0 p0) (h1 : DataW.Trod enc Tryz.prog W 0 (fun _ => true) true t1 v1 d1 p1) (h2 : DataW.Trod enc Tryz.prog W 0 (fun _ => true) true t2 v2 d2 p2) (hb : Below W.heap.size W W') :
    s.post enc Tryz.prog f false true false false W #[v0, v1, v2] (.bool true) W' := by
  have hlt : ∀ p ∈ p0 ++ p1 ++ p2, p.block < W.heap.size := fun p hp => hW.lt p (by simpa using hp)
  refine post_of_below (pa := p0 ++ (p1 ++ p2)) (pv := []) hW ?_ ?_ ?_ (by simp) hb ?_
  · intro b sp hd
    rw [hres]
    simp only [List.append_nil, hspec]
    exact trodAll_mk1 (shut_bool (by kernel_rfl) true)
  · intro sp hsp
    rw [hparams]
    simp only [List.append_nil, hspec]
    refine trodAll_mk3 ?_ ?_ ?_
    · exact WideElems.Trod_stays Tryz.laidOut hr0 ht0 h0 (fun x hx => hb.same (hlt x (by simp [hx]))) (fun x hx => hsp x (by simp [hx]))
    · exact WideElems.Trod_stays Tryz.laidOut hr1 ht1 h1 (fun x hx => hb.same (hlt x (by simp [hx]))) (fun x hx => hsp x (by simp [hx]))
    · exact WideElems.Trod_stays Tryz.laidOut hr2 ht2 h2 (fun x hx => hb.same (hlt x (by simp [hx]))) (fun x hx => hsp x (by simp [hx]))
  · intro sp hsp
    rw [hvars]
    simp only [List.append_nil, hspec]
    rfl
  · exact ok_one hres rfl (okWide_bool_mk (by kernel_rfl) true)
end Go.Proofs.YtnmpafcflfjhgaaGreat

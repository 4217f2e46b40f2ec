/- Bytes that are owned: appended to, read. -/
import Derived.Test.YtnmpafcflfjhgaaGreatSeg5
import Derived.Deep.RegionLaw
namespace Go.Proofs.YtnmpafcflfjhgaaGreat
open Go.RowKit

/-- A slice of bytes of its own: these bytes, these blocks. -/
def SlB (v : Value) (l : List UInt8) (H : Hh) : Prop := SlH 5 1 v l.length (l.map bval) H
theorem SlB.nil_ : SlB (.slice none 0 0) [] [] := SlH.nil_ _ _
theorem SlB.form {v : Value} {l : List UInt8} {H : Hh} (h : SlB v l H) : ∃ A c, v = .slice A l.length c := by
  obtain ⟨A, c, e, _⟩ := SlH.form h
  exact ⟨A, c, e⟩
theorem SlB.at_ {W w : World} {v : Value} {l : List UInt8} {H R : Hh} (h : SlB v l H) (hp : Hp W w (H ++ R)) : BytesAt w v l := by
  obtain ⟨A, c, rfl⟩ := h.form
  exact SlH.bytes h hp
theorem SlB.in_ {v : Value} {l : List UInt8} {H : Hh} (h : SlB v l H) : BytesIn H v l := by
  obtain ⟨A, c, rfl⟩ := h.form
  exact SlH.bytesIn h
/-- Bytes that a statement builds. -/
theorem BytesAt.lit {w : World} {g : Nat} {t : TypeId} {cs : Array Value} (l : List UInt8) (h : Blk w g t cs) (hc : cs = (l.map bval).toArray) (hn : l.length ≤ 1000) : BytesAt w (.slice (some ⟨g, 0, none⟩) l.length l.length) l := by
  subst hc
  refine ⟨_, _, rfl, Nat.le_refl _, by unfold maxLen; omega, fun k hk => ⟨g, 0, rfl, ?_⟩⟩
  rw [Nat.zero_add, h.cell]
  simp [hk, bval]
theorem bytes_fit {n m : Nat} (h : n + m ≤ 1000000) : n + m ≤ maxLen ∧ (n + m) * 1 ≤ 140737488355328 := ⟨by unfold maxLen; omega, by omega⟩
section
variable {W w : World} {ops : Array Oper} {rest : List Oper} {o : Oper} {a : Act} {K : Act → World → Prop} {Q : Exit → Act → World → Prop} {E : Prop}
/-- append(s, x...) of bytes onto bytes of one's own. -/
theorem wpList_append_B (hgd : o.guard = none) (s x : Operand) (ho : o.op = .call { callee := .builtin .append, args := #[s, x], argTypes := #[ 44, 44 ] })
    (v u : Value) (l m : List UInt8) (H R : Hh) (hs : a.eval s = v) (hx : a.eval x = u) (hsl : SlB v l H) (hp : Hp W w (H ++ R)) (hu : BytesAt w u m) (hf : l.length + m.length ≤ 1000000)
    (h : ∀ A' n' c' w' H', Hid (n' = (l ++ m).length) → SlB (.slice A' n' c') (l ++ m) H' → Hp W w' (H' ++ R) → wpList Tryz.prog ops Q rest (a.put o.dst (.slice A' n' c')) w') : wpList Tryz.prog ops Q (o :: rest) a w := by
  obtain ⟨i0, hi, hz0, hz1, hz2⟩ := info_parts info_byte
  obtain ⟨B, d, rfl⟩ := hu.form
  refine wpList_append_H hgd s x _ ho _ i0 (.int .u8 0) 1 1 und_bytes hi hz0 hz1 hz2 rfl (by decide) v l.length (l.map bval) H R hs hsl hp w.heap.size B m.length d (m.map bval) hx hu.reads (bytes_one m) (bytes_fit hf).1 (bytes_fit hf).2 fun A' c' w' H' h1 h2 => ?_
  have e : (l ++ m).length = l.length + m.length := List.length_append
  exact h A' _ c' w' H' (Lib.hid e.symm) (by unfold SlB; rw [e, List.map_append]; exact h1) h2
/-- The same, as a step of a region that draws. -/
theorem step_append_B (hgd : o.guard = none) (s x : Operand) (ho : o.op = .call { callee := .builtin .append, args := #[s, x], argTypes := #[ 44, 44 ] })
    (v u : Value) (l m : List UInt8) (H R : Hh) (hs : a.eval s = v) (hx : a.eval x = u) (hsl : SlB v l H) (hp : Hp W w (H ++ R)) (hu : BytesAt w u m) (hf : l.length + m.length ≤ 1000000)
    (h : ∀ A' n' c' w' H', Hid (n' = (l ++ m).length) → SlB (.slice A' n' c') (l ++ m) H' → Hp W w' (H' ++ R) → K (a.put o.dst (.slice A' n' c')) w') : if Region.wanted o (yielded ops a.tmps) = true then Oper.wp Tryz.prog o a w K Q else E := by
  obtain ⟨i0, hi, hz0, hz1, hz2⟩ := info_parts info_byte
  obtain ⟨B, d, rfl⟩ := hu.form
  refine step_append_H hgd s x _ ho _ i0 (.int .u8 0) 1 1 und_bytes hi hz0 hz1 hz2 rfl (by decide) v l.length (l.map bval) H R hs hsl hp w.heap.size B m.length d (m.map bval) hx hu.reads (bytes_one m) (bytes_fit hf).1 (bytes_fit hf).2 fun A' c' w' H' h1 h2 => ?_
  have e : (l ++ m).length = l.length + m.length := List.length_append
  exact h A' _ c' w' H' (Lib.hid e.symm) (by unfold SlB; rw [e, List.map_append]; exact h1) h2
end
end Go.Proofs.YtnmpafcflfjhgaaGreat

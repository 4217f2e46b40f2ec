/- Words for memory: rows of one-cell elements, bytes, rows of bytes. -/
import Derived.Test.YtnmpafcflfjhgaaGreatBase
namespace Go.Proofs.YtnmpafcflfjhgaaGreat
open Go.RowKit

def ptr (g : Nat) : Value := .pointer (some ⟨g, 0, none⟩)
def optPtr (o : Option Nat) : Value := .pointer (o.map fun g => ⟨g, 0, none⟩)
/-- A slice of one-cell elements reads as these. -/
def Row (w : World) (A : Option Addr) (xs : List Value) : Prop :=
  ∀ (k : Nat) (_ : k < xs.length), ∃ g off, A = some ⟨g, off, none⟩ ∧ w.cell? ⟨g, off + k, none⟩ = some (xs.getD k undef)
theorem SlH.row {W w : World} {e : TypeId} {A : Option Addr} {c n : Nat} {xs : List Value} {H R : List (Nat × Obj)} (h : SlH e 1 (.slice A n c) n xs H) (hp : Hp W w (H ++ R)) : Row w A xs := by
  intro k hk
  rcases h.2 with ⟨hn, rfl, _⟩ | ⟨g, cap, cur, hv, h1, h2, h3, h4, rfl⟩
  · have := h.1; omega
  · injection hv with hA
    subst hA
    refine ⟨g, 0, rfl, ?_⟩
    have hb : Blk w g e cur := hp.mem (by simp)
    rw [Nat.zero_add, hb.cell, ← h4]
    rw [List.getD_eq_getElem?_getD, List.getElem?_take]
    have hl := h.1
    have : k < cur.size := by
      rw [← h4, List.length_take] at hk
      simp at hk
      omega
    rw [if_pos (by omega)]
    simp [this]

theorem Reads.one {w : World} {B g : Nat} {u : Value} (h : w.cell? ⟨g, 0, none⟩ = some u) (hB : g < B := by omega) : Reads w B 1 (some ⟨g, 0, none⟩) 1 [u] :=
  ⟨rfl, fun _ => ⟨_, rfl, hB, fun j v hv => by
    have hj : j = 0 := by have := (List.getElem?_eq_some_iff.1 hv).1; simpa using this
    subst hj
    simp at hv
    subst hv
    exact h⟩⟩
theorem Blk.new_at {w : World} {g : Nat} (t : TypeId) (cs : Array Value) (h : w.heap.size = g) : Blk (w.alloc (.cells cs t)) g t cs := by subst h; exact Blk.new w t cs
theorem Hp.alloc_at {W w : World} {R : List (Nat × Obj)} {n : Nat} (h : Hp W w R) (o : Obj) (hn : w.heap.size = n) : Hp W (w.alloc o) ((n, o) :: R) := by subst hn; exact h.alloc o
theorem Hp.skip {W w : World} {R : List (Nat × Obj)} (h : Hp W w R) (o : Obj) : Hp W (w.alloc o) R := (h.alloc o).tail

/-- A slice that reads as bytes. -/
def BytesAt (w : World) (v : Value) (l : List UInt8) : Prop :=
  ∃ A c, v = .slice A l.length c ∧ l.length ≤ c ∧ c ≤ maxLen ∧ ∀ (k : Nat) (h : k < l.length), ∃ g off, A = some ⟨g, off, none⟩ ∧ w.cell? ⟨g, off + k, none⟩ = some (.int .u8 (l[k]'h).toNat)
theorem BytesAt.nil_ (w : World) : BytesAt w (.slice none 0 0) [] := ⟨none, 0, rfl, Nat.le_refl _, Nat.zero_le _, fun k h => absurd h (Nat.not_lt_zero _)⟩
theorem Row.keep {w w' : World} {A : Option Addr} {xs : List Value} (h : Row w A xs) (hk : ∀ g o, (w.cell? ⟨g, o, none⟩).isSome → w'.cell? ⟨g, o, none⟩ = w.cell? ⟨g, o, none⟩) : Row w' A xs := by
  intro k hl
  obtain ⟨g, off, hA, hc⟩ := h k hl
  exact ⟨g, off, hA, by rw [hk g (off + k) (by rw [hc]; rfl), hc]⟩
theorem BytesAt.keep {w w' : World} {v : Value} {l : List UInt8} (h : BytesAt w v l) (hk : ∀ g o, (w.cell? ⟨g, o, none⟩).isSome → w'.cell? ⟨g, o, none⟩ = w.cell? ⟨g, o, none⟩) : BytesAt w' v l := by
  obtain ⟨A, c, hv, h1, h2, hx⟩ := h
  refine ⟨A, c, hv, h1, h2, fun k hl => ?_⟩
  obtain ⟨g, off, hA, hc⟩ := hx k hl
  exact ⟨g, off, hA, by rw [hk g (off + k) (by rw [hc]; rfl), hc]⟩
theorem under_cell {w w' : World} (hb : Below w.heap.size w w') : ∀ g o, (w.cell? ⟨g, o, none⟩).isSome → w'.cell? ⟨g, o, none⟩ = w.cell? ⟨g, o, none⟩ := by
  intro g o hs
  obtain ⟨v, hv⟩ := Option.isSome_iff_exists.1 hs
  exact hb.cell (p := ⟨g, o, none⟩) (World.block_lt_of_cell? w _ hv)
theorem BytesAt.under {w w' : World} {v : Value} {l : List UInt8} (h : BytesAt w v l) (hb : Below w.heap.size w w') : BytesAt w' v l := h.keep (under_cell hb)
theorem Row.under {w w' : World} {A : Option Addr} {xs : List Value} (h : Row w A xs) (hb : Below w.heap.size w w') : Row w' A xs := h.keep (under_cell hb)
/-- A byte as a cell. -/
def bval (b : UInt8) : Value := .int .u8 b.toNat
theorem BytesAt.reads {w : World} {A : Option Addr} {n c : Nat} {l : List UInt8} (h : BytesAt w (.slice A n c) l) : Reads w w.heap.size 1 A n (l.map bval) := by
  obtain ⟨A', c', hv, h1, h2, hx⟩ := h
  injection hv with hA hn hc
  subst hA; subst hn; subst hc
  refine ⟨by simp, fun hl => ?_⟩
  obtain ⟨g, off, hA, hc0⟩ := hx 0 hl
  refine ⟨_, hA, World.block_lt_of_cell? w _ hc0, fun j u hu => ?_⟩
  rw [List.getElem?_map] at hu
  obtain ⟨b, hb, rfl⟩ := Option.map_eq_some_iff.1 hu
  obtain ⟨hj, rfl⟩ := List.getElem?_eq_some_iff.1 hb
  obtain ⟨g', off', hA', hc⟩ := hx j hj
  rw [hA] at hA'
  injection hA' with hA'
  injection hA' with e1 e2
  subst e1; subst e2
  have e : (⟨g, off, none⟩ : Addr).add j = ⟨g, off + j, none⟩ := by
    unfold Addr.add
    split
    · rename_i h0; subst h0; rfl
    · rfl
  rw [e, hc]
  rfl
/-- What is owned reads. -/
theorem BytesAt.of_own {w : World} {base : Nat} {e : TypeId} {A : Option Addr} {n c : Nat} {l : List UInt8} (h : w.ownsRow base e 1 (.slice A n c) n (l.map bval)) : BytesAt w (.slice A n c) l := by
  have hl : l.length = n := by have := h.1; simpa using this
  rcases h.2 with ⟨hv, rfl⟩ | ⟨g, cap, cur, hv, h0, hg, h1, h2, h3, h4⟩
  · injection hv with hA _ hc
    subst hA; subst hc
    have : l = [] := List.eq_nil_of_length_eq_zero hl
    subst this
    exact BytesAt.nil_ w
  · injection hv with hA _ hc
    subst hA; subst hc
    refine ⟨_, c, by rw [hl], by omega, h2, fun k hk => ⟨g, 0, rfl, ?_⟩⟩
    have hb : Blk w g e cur := hg
    rw [Nat.zero_add, hb.cell]
    have h5 : (l.map bval)[k]? = some (bval (l[k]'hk)) := by simp [hk]
    rw [← h4, List.getElem?_take] at h5
    split at h5
    · rw [bval] at h5; simpa using h5
    · cases h5
/-- A row of rows of bytes. -/
def PartsAt (w : World) (v : Value) (ls : List (List UInt8)) : Prop :=
  ∃ A c, v = .slice A ls.length c ∧ ls.length ≤ c ∧ c ≤ maxLen ∧ ∀ (k : Nat) (h : k < ls.length), ∃ g off u, A = some ⟨g, off, none⟩ ∧ w.cell? ⟨g, off + k, none⟩ = some u ∧ BytesAt w u (ls[k]'h)
end Go.Proofs.YtnmpafcflfjhgaaGreat

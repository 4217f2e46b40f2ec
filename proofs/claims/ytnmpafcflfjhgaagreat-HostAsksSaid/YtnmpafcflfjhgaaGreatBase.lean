/- The words of this seat's proofs: a block that is known whole, a heap fragment (a list of blocks, each known whole), what a call leaves of it. -/
import Derived.WalkKit
import Derived.KernelRfl
import Derived.Deep.DeepCutAuto
import Derived.Deep.CutBlock
import Derived.Deep.Draws
import Derived.Deep.QuietTactic
import Derived.BigQuiet
import Derived.Deep.AppendLies
import Derived.StillTailTactics
import Derived.Lib.Hide
import Derived.Laws.OwnMore
import Derived.Maps.AppendAt
import Derived.RegionTactic
import Derived.OwnWalk
import Derived.Test.YtnmpafcflfjhgaaGreatProg
namespace Go.Proofs.YtnmpafcflfjhgaaGreat
open Go.RowKit

/-- Block g is just these cells of element type t, none frozen. -/
def Blk (w : World) (g : Nat) (t : TypeId) (cs : Array Value) : Prop := w.heap[g]? = some (.cells cs t (0, 0))
section
variable {w w' : World} {g : Nat} {t : TypeId} {cs : Array Value}
theorem Blk.lt (h : Blk w g t cs) : g < w.heap.size := by
  rcases Nat.lt_or_ge g w.heap.size with hlt | hge
  · exact hlt
  · unfold Blk at h; rw [Array.getElem?_eq_none hge] at h; cases h
theorem Blk.cell (h : Blk w g t cs) (i : Nat) : w.cell? ⟨g, i, none⟩ = cs[i]? := cell_of_row w g i cs t (0, 0) h
theorem Blk.frozen (h : Blk w g t cs) (i : Nat) : w.frozen? ⟨g, i, none⟩ = false := by
  unfold Blk at h
  simp [World.frozen?, h]
theorem Blk.new (w : World) (t : TypeId) (cs : Array Value) : Blk (w.alloc (.cells cs t)) w.heap.size t cs := heap_alloc_new w _
theorem Blk.drew (h : Blk w g t cs) : Blk w.drew g t cs := h
theorem Blk.drewN (h : Blk w g t cs) (n : Nat) : Blk (w.drewN n) g t cs := h
theorem Blk.alloc (h : Blk w g t cs) (o : Obj) : Blk (w.alloc o) g t cs := (Below.heap_alloc w o g h.lt).trans h
theorem Blk.set_ (h : Blk w g t cs) (i : Nat) (u : Value) : Blk (w.setCell ⟨g, i, none⟩ u) g t (cs.setIfInBounds i u) := by
  unfold Blk at h ⊢
  simp [World.setCell, Array.getElem?_modify, h]
theorem Blk.far (h : Blk w g t cs) {p : Addr} (hp : g ≠ p.block) (u : Value) : Blk (w.setCell p u) g t cs := (Below.heap_setCell w p u g hp).trans h
theorem Blk.below {B : Nat} (h : Blk w g t cs) (hb : Below B w w') (hg : g < B) : Blk w' g t cs := (hb.block g hg).trans h
theorem Blk.under (h : Blk w g t cs) (hb : Below w.heap.size w w') : Blk w' g t cs := h.below hb h.lt
theorem Blk.ne_ {g' : Nat} {t' : TypeId} {cs' : Array Value} (h : Blk w g t cs) (h' : Blk w g' t' cs') (hne : t ≠ t') : g ≠ g' := by
  rintro rfl
  unfold Blk at h h'
  rw [h] at h'
  injection h' with h'
  injection h' with _ ht
  exact hne ht
end
theorem bcell {W w1 : World} (hb : Below W.heap.size W w1) : (∀ b o, b < W.heap.size → w1.cell? ⟨b, o, none⟩ = W.cell? ⟨b, o, none⟩) ∧ (∀ b o, b < W.heap.size → w1.frozen? ⟨b, o, none⟩ = W.frozen? ⟨b, o, none⟩) :=
  ⟨fun b o h => hb.cell (p := ⟨b, o, none⟩) h, fun b o h => hb.frozen (p := ⟨b, o, none⟩) h⟩
/- Words out of the kit's page extra-words, sections 1 and 3. -/
theorem block_of_add (a : Addr) (n : Nat) : (a.add n).block = a.block := by unfold Addr.add; split <;> rfl
theorem add_of_add (a : Addr) (i j : Nat) : (a.add i).add j = a.add (i + j) := by
  unfold Addr.add
  by_cases hi : i = 0 <;> by_cases hj : j = 0 <;> simp [hi, hj, Nat.add_assoc]

def Reads (w : World) (B size : Nat) (A : Option Addr) (n : Nat) (xs : List Value) : Prop :=
  xs.length = n * size ∧ (0 < n → ∃ ad, A = some ad ∧ ad.block < B ∧ ∀ j u, xs[j]? = some u → w.cell? (ad.add j) = some u)

section
variable {w w' : World} {B B' size n : Nat} {A : Option Addr} {xs : List Value}
theorem Reads.none_ : Reads w B size A 0 [] := ⟨by simp, fun h => absurd h (by omega)⟩
theorem Reads.at_ {k : Nat} (h : Reads w B 1 A n xs) (hk : k < n) : ∃ ad u, A = some ad ∧ ad.block < B ∧ xs[k]? = some u ∧ w.cell? (ad.add k) = some u := by
  obtain ⟨ad, e, hb, hc⟩ := h.2 (by omega)
  have hl : k < xs.length := by have := h.1; omega
  exact ⟨ad, xs[k], e, hb, List.getElem?_eq_getElem hl, hc k _ (List.getElem?_eq_getElem hl)⟩
theorem Reads.keep (h : Reads w B size A n xs) (hk : ∀ p : Addr, p.block < B → w'.cell? p = w.cell? p) : Reads w' B size A n xs :=
  ⟨h.1, fun hn => by
    obtain ⟨ad, e, hb, hc⟩ := h.2 hn
    exact ⟨ad, e, hb, fun j u hu => (hk _ (by rw [block_of_add]; exact hb)).trans (hc j u hu)⟩⟩
theorem Reads.more (h : Reads w B size A n xs) (hB : B ≤ B') : Reads w B' size A n xs :=
  ⟨h.1, fun hn => by
    obtain ⟨ad, e, hb, hc⟩ := h.2 hn
    exact ⟨ad, e, by omega, hc⟩⟩
theorem Reads.below (h : Reads w B size A n xs) (hb : Below B w w') : Reads w' B size A n xs := h.keep fun _ hp => hb.cell hp
theorem Reads.drew (h : Reads w B size A n xs) : Reads w.drew B size A n xs := h
theorem Reads.drewN (h : Reads w B size A n xs) (k : Nat) : Reads (w.drewN k) B size A n xs := h
theorem Reads.alloc (h : Reads w B size A n xs) (hB : B ≤ w.heap.size) (o : Obj) : Reads (w.alloc o) B size A n xs := h.keep fun p hp => World.cell?_alloc_lt w o p (by omega)
theorem Reads.setCell (h : Reads w B size A n xs) {p : Addr} (hB : B ≤ p.block) (u : Value) : Reads (w.setCell p u) B size A n xs :=
  h.keep fun q hq => World.cell?_setCell_other w p q u (fun e => by subst e; omega)
theorem Reads.grown (h : Reads w B size A n xs) {row : Option Nat} (hg : w.grownBy w' row) (hB : B ≤ w.heap.size) (hr : ∀ g, row = some g → B ≤ g) : Reads w' B size A n xs :=
  h.keep fun p hp => World.cell?_of_block (hg.block p.block (by omega) (fun e => by have := hr _ e.symm; omega))
theorem Reads.cut (h : Reads w B size A n xs) {k cap : Nat} (hk : k ≤ n) (hc : n ≤ cap) :
    Reads w B size (if cap = k then A else A.map (·.add (k * size))) (n - k) (xs.drop (k * size)) := by
  refine ⟨by rw [List.length_drop, h.1, Nat.sub_mul], fun hn => ?_⟩
  obtain ⟨ad, rfl, hb, hcell⟩ := h.2 (by omega)
  rw [if_neg (by omega)]
  refine ⟨ad.add (k * size), rfl, by rw [block_of_add]; exact hb, fun j u hu => ?_⟩
  rw [add_of_add]
  exact hcell _ u (by rw [← hu, List.getElem?_drop])
theorem Reads.of_own {base : Nat} {e : TypeId} {c : Nat} (h : w.ownsRow base e size (.slice A n c) n xs) : Reads w w.heap.size size A n xs := by
  refine ⟨h.1, fun hn => ?_⟩
  obtain ⟨g, cap, hv, _, hlt⟩ := h.form hn
  have hA : A = some ⟨g, 0, none⟩ := by injection hv
  subst hA
  exact ⟨_, rfl, hlt, h.cells (g := g) rfl⟩
end

section
variable {P : Program} (w : World)

theorem run_append_of_nil (base : Nat) (t ty e : TypeId) (i : TypeInfo) (size : Nat) (ht : P.underlying t = some (.slice e)) (hi : P.info? e = some i)
    (v : Value) (n : Nat) (xs : List Value) (hown : w.ownsRow base e size v n xs) (c : Nat) : (Builtin.append_ #[t, t] ty #[v, .slice none 0 c]).run P w = .ok v w := by
  rcases hown.2 with ⟨rfl, rfl⟩ | ⟨g, cap, cur, rfl, _, _, hnc, _⟩
  · simp [Builtin.append_, run_underlying ht, sizeOf, typeInfo, hi, Builtin.lenOf, Builtin.firstCells]
  · simp [Builtin.append_, run_underlying ht, sizeOf, typeInfo, hi, Builtin.lenOf, Builtin.firstCells, hnc, storeCells]

theorem run_append_any (base : Nat) (t ty e : TypeId) (i : TypeInfo) (z : Value) (size bytes : Nat) (ht : P.underlying t = some (.slice e)) (hi : P.info? e = some i) (hz : i.zero = some z)
    (hsize : i.size = size) (hby : i.bytes = bytes) (hzs : z.cells.size = size) (hsz : 0 < size)
    (v : Value) (n : Nat) (xs : List Value) (hown : w.ownsRow base e size v n xs)
    (B : Nat) (A : Option Addr) (m c : Nat) (news : List Value) (hr : Reads w B size A m news) (h1 : ∀ u ∈ news, u.oneCell' = true)
    (h63 : n + m ≤ maxLen) (hbytes : (n + m) * bytes ≤ 140737488355328) (hbase : base ≤ w.heap.size) :
    ∃ v' w', (Builtin.append_ #[t, t] ty #[v, .slice A m c]).run P w = .ok v' w' ∧ w'.ownsRow base e size v' (n + m) (xs ++ news) ∧ w.grownBy w' v.ownBlock ∧
      (v'.ownBlock = v.ownBlock ∨ v'.ownBlock = some w.heap.size) := by
  rcases A with _ | ad
  · have hm : m = 0 := by
      rcases Nat.eq_zero_or_pos m with h0 | h0
      · exact h0
      · obtain ⟨ad, h, _⟩ := hr.2 h0
        cases h
    subst hm
    have hn : news = [] := List.eq_nil_of_length_eq_zero (by simpa using hr.1)
    subst hn
    exact ⟨v, w, run_append_of_nil w base t ty e i size ht hi v n xs hown c, by simpa using hown, World.grownBy.refl w _, .inl rfl⟩
  · have hcells : ∀ j u, news[j]? = some u → w.cell? (ad.add j) = some u := by
      intro j u hu
      rcases Nat.eq_zero_or_pos m with h0 | h0
      · subst h0
        have hn : news = [] := List.eq_nil_of_length_eq_zero (by simpa using hr.1)
        subst hn
        simp at hu
      · obtain ⟨ad', h, _, hc⟩ := hr.2 h0
        injection h with h
        subst h
        exact hc j u hu
    obtain ⟨v', w', hrun, h2, h3, _, h5⟩ := run_append_own_at (P := P) w base t ty e i z size bytes ht hi hz hsize hby hzs hsz v n xs hown ad m c news hr.1 hcells h1 h63 hbytes hbase
    exact ⟨v', w', hrun, h2, h3, h5⟩

theorem wp_append_any {o : Oper} {a : Act} {K : Act → World → Prop} {Q : Exit → Act → World → Prop} (s x : Operand) (t : TypeId)
    (ho : o.op = .call { callee := .builtin .append, args := #[s, x], argTypes := #[t, t] })
    (base : Nat) (e : TypeId) (i : TypeInfo) (z : Value) (size bytes : Nat) (ht : P.underlying t = some (.slice e)) (hi : P.info? e = some i) (hz : i.zero = some z)
    (hsize : i.size = size) (hby : i.bytes = bytes) (hzs : z.cells.size = size) (hsz : 0 < size)
    (v : Value) (n : Nat) (xs : List Value) (hs : a.eval s = v) (hown : w.ownsRow base e size v n xs)
    (B : Nat) (A : Option Addr) (m c : Nat) (news : List Value) (hx : a.eval x = .slice A m c) (hr : Reads w B size A m news) (h1 : ∀ u ∈ news, u.oneCell' = true)
    (h63 : n + m ≤ maxLen) (hbytes : (n + m) * bytes ≤ 140737488355328) (hbase : base ≤ w.heap.size)
    (h : ∀ v' w', w'.ownsRow base e size v' (n + m) (xs ++ news) → w.grownBy w' v.ownBlock → (v'.ownBlock = v.ownBlock ∨ v'.ownBlock = some w.heap.size) → K (a.put o.dst v') w') : o.wp P a w K Q := by
  obtain ⟨v', w', hrun, h2, h3, h4⟩ := run_append_any (P := P) w base t o.type e i z size bytes ht hi hz hsize hby hzs hsz v n xs hown B A m c news hr h1 h63 hbytes hbase
  unfold Oper.wp execOp
  simp only [ho, resolve, invoke, builtin, Sem.run_bind, Sem.run_pure, Result.andThen_ok, List.map_toArray, List.map_cons, List.map_nil, hs, hx, hrun]
  exact h v' w' h2 h3 h4

theorem wpList_append_any {ops : Array Oper} {rest : List Oper} {o : Oper} {a : Act} {Q : Exit → Act → World → Prop} (hgd : o.guard = none) (s x : Operand) (t : TypeId)
    (ho : o.op = .call { callee := .builtin .append, args := #[s, x], argTypes := #[t, t] })
    (base : Nat) (e : TypeId) (i : TypeInfo) (z : Value) (size bytes : Nat) (ht : P.underlying t = some (.slice e)) (hi : P.info? e = some i) (hz : i.zero = some z)
    (hsize : i.size = size) (hby : i.bytes = bytes) (hzs : z.cells.size = size) (hsz : 0 < size)
    (v : Value) (n : Nat) (xs : List Value) (hs : a.eval s = v) (hown : w.ownsRow base e size v n xs)
    (B : Nat) (A : Option Addr) (m c : Nat) (news : List Value) (hx : a.eval x = .slice A m c) (hr : Reads w B size A m news) (h1 : ∀ u ∈ news, u.oneCell' = true)
    (h63 : n + m ≤ maxLen) (hbytes : (n + m) * bytes ≤ 140737488355328) (hbase : base ≤ w.heap.size)
    (h : ∀ v' w', w'.ownsRow base e size v' (n + m) (xs ++ news) → w.grownBy w' v.ownBlock → (v'.ownBlock = v.ownBlock ∨ v'.ownBlock = some w.heap.size) → wpList P ops Q rest (a.put o.dst v') w') : wpList P ops Q (o :: rest) a w :=
  wpList_plain hgd fun _ hK => wp_append_any w s x t ho base e i z size bytes ht hi hz hsize hby hzs hsz v n xs hs hown B A m c news hx hr h1 h63 hbytes hbase fun v' w' h2 h3 h4 => hK _ _ (h v' w' h2 h3 h4)

theorem step_append_any {ops : Array Oper} {o : Oper} {a : Act} {K : Act → World → Prop} {Q : Exit → Act → World → Prop} {E : Prop} (hgd : o.guard = none) (s x : Operand) (t : TypeId)
    (ho : o.op = .call { callee := .builtin .append, args := #[s, x], argTypes := #[t, t] })
    (base : Nat) (e : TypeId) (i : TypeInfo) (z : Value) (size bytes : Nat) (ht : P.underlying t = some (.slice e)) (hi : P.info? e = some i) (hz : i.zero = some z)
    (hsize : i.size = size) (hby : i.bytes = bytes) (hzs : z.cells.size = size) (hsz : 0 < size)
    (v : Value) (n : Nat) (xs : List Value) (hs : a.eval s = v) (hown : w.ownsRow base e size v n xs)
    (B : Nat) (A : Option Addr) (m c : Nat) (news : List Value) (hx : a.eval x = .slice A m c) (hr : Reads w B size A m news) (h1 : ∀ u ∈ news, u.oneCell' = true)
    (h63 : n + m ≤ maxLen) (hbytes : (n + m) * bytes ≤ 140737488355328) (hbase : base ≤ w.heap.size)
    (h : ∀ v' w', w'.ownsRow base e size v' (n + m) (xs ++ news) → w.grownBy w' v.ownBlock → (v'.ownBlock = v.ownBlock ∨ v'.ownBlock = some w.heap.size) → K (a.put o.dst v') w') :
    if Region.wanted o (yielded ops a.tmps) = true then Oper.wp P o a w K Q else E := by
  have hw : Region.wanted o (yielded ops a.tmps) = true := by simp [Region.wanted, hgd]
  rw [if_pos hw]
  exact wp_append_any w s x t ho base e i z size bytes ht hi hz hsize hby hzs hsz v n xs hs hown B A m c news hx hr h1 h63 hbytes hbase h
end

/-- A heap fragment over the world W in which all began: below W all is as it was; each block of the list is just that object. -/
structure Hp (W w : World) (H : List (Nat × Obj)) : Prop where
  below : Below W.heap.size W w
  nodup : (H.map Prod.fst).Nodup
  at_ : ∀ p ∈ H, W.heap.size ≤ p.1 ∧ w.heap[p.1]? = some p.2
section
variable {W w w' : World} {g : Nat} {t : TypeId} {cs : Array Value} {H H' R : List (Nat × Obj)} {o : Obj}
theorem Hp.refl (W : World) : Hp W W [] := ⟨Below.refl _ _, by simp, by simp⟩
theorem Hp.head (h : Hp W w ((g, .cells cs t (0, 0)) :: R)) : Blk w g t cs := (h.at_ (g, .cells cs t (0, 0)) (by simp)).2
theorem Hp.mem (h : Hp W w H) (hm : (g, .cells cs t (0, 0)) ∈ H) : Blk w g t cs := (h.at_ (g, .cells cs t (0, 0)) hm).2
theorem Hp.perm (h : Hp W w H) (p : H.Perm H') : Hp W w H' := ⟨h.below, (p.map Prod.fst).nodup h.nodup, fun q hq => h.at_ q (p.mem_iff.2 hq)⟩
theorem Hp.tail {p : Nat × Obj} (h : Hp W w (p :: R)) : Hp W w R := ⟨h.below, (List.nodup_cons.1 (by simpa using h.nodup)).2, fun q hq => h.at_ q (by simp [hq])⟩
theorem Hp.right (h : Hp W w (H ++ R)) : Hp W w R := ⟨h.below, by have := h.nodup; rw [List.map_append] at this; exact (List.nodup_append.1 this).2.1, fun q hq => h.at_ q (by simp [hq])⟩
theorem Hp.left (h : Hp W w (H ++ R)) : Hp W w H := ⟨h.below, by have := h.nodup; rw [List.map_append] at this; exact (List.nodup_append.1 this).1, fun q hq => h.at_ q (by simp [hq])⟩
theorem Hp.swap (h : Hp W w (H ++ (H' ++ R))) : Hp W w (H' ++ (H ++ R)) := h.perm (by rw [← List.append_assoc, ← List.append_assoc]; exact List.Perm.append_right _ List.perm_append_comm)
theorem Hp.lt (h : Hp W w H) {p : Nat × Obj} (hp : p ∈ H) : p.1 < w.heap.size := by
  have := (h.at_ p hp).2
  rcases Nat.lt_or_ge p.1 w.heap.size with hlt | hge
  · exact hlt
  · rw [Array.getElem?_eq_none hge] at this; cases this
theorem Hp.size (h : Hp W w H) : W.heap.size ≤ w.heap.size := h.below.size
theorem Hp.base (h : Hp W w H) {p : Nat × Obj} (hp : p ∈ H) : W.heap.size ≤ p.1 := (h.at_ p hp).1
/-- What does not touch a block of the list, nor one below W. -/
theorem Hp.keep (h : Hp W w H) (hb : Below W.heap.size w w') (hk : ∀ p ∈ H, w'.heap[p.1]? = w.heap[p.1]?) : Hp W w' H :=
  ⟨h.below.trans hb, h.nodup, fun p hp => ⟨(h.at_ p hp).1, (hk p hp).trans (h.at_ p hp).2⟩⟩
theorem Hp.under (h : Hp W w H) (hb : Below w.heap.size w w') : Hp W w' H := h.keep (hb.mono h.size) fun _ hp => hb.block _ (h.lt hp)
theorem Hp.drew (h : Hp W w H) : Hp W w.drew H := h.keep (Below.refl _ _).drew fun _ _ => rfl
theorem Hp.drewN (h : Hp W w H) (n : Nat) : Hp W (w.drewN n) H := h.keep ⟨rfl, rfl, rfl, Nat.le_refl _, fun _ _ => rfl⟩ fun _ _ => rfl
theorem Hp.alloc (h : Hp W w R) (o : Obj) : Hp W (w.alloc o) ((w.heap.size, o) :: R) :=
  ⟨h.below.trans ((Below.refl _ _).alloc h.size o), by
    rw [List.map_cons, List.nodup_cons]
    refine ⟨fun hm => ?_, h.nodup⟩
    obtain ⟨p, hp, he⟩ := List.mem_map.1 hm
    have := h.lt hp
    simp only at he
    omega, fun p hp => by
      rcases List.mem_cons.1 hp with rfl | hp
      · exact ⟨h.size, heap_alloc_new w _⟩
      · exact ⟨(h.at_ p hp).1, (Below.heap_alloc w o _ (h.lt hp)).trans (h.at_ p hp).2⟩⟩
theorem Hp.notin (h : Hp W w ((g, o) :: R)) {p : Nat × Obj} (hp : p ∈ R) : p.1 ≠ g := by
  have := h.nodup
  rw [List.map_cons, List.nodup_cons] at this
  rintro rfl
  exact this.1 (List.mem_map.2 ⟨p, hp, rfl⟩)
theorem Hp.set_ (h : Hp W w ((g, .cells cs t (0, 0)) :: R)) (i : Nat) (u : Value) : Hp W (w.setCell ⟨g, i, none⟩ u) ((g, .cells (cs.setIfInBounds i u) t (0, 0)) :: R) := by
  refine ⟨h.below.trans ((Below.refl _ _).setCell (p := ⟨g, i, none⟩) (h.base (p := (g, .cells cs t (0, 0))) (by simp)) u), by have := h.nodup; simpa using this, fun p hp => ?_⟩
  rcases List.mem_cons.1 hp with rfl | hp
  · exact ⟨h.base (p := (g, .cells cs t (0, 0))) (by simp), h.head.set_ i u⟩
  · exact ⟨h.base (by simp [hp]), (Below.heap_setCell w ⟨g, i, none⟩ u p.1 (h.notin hp)).trans (h.at_ p (by simp [hp])).2⟩
/-- A block becomes another object. -/
theorem Hp.turn {o' : Obj} (h : Hp W w ((g, o) :: R)) (hb : Below W.heap.size w w') (hn : w'.heap[g]? = some o') (hk : ∀ k, k < w.heap.size → k ≠ g → w'.heap[k]? = w.heap[k]?) : Hp W w' ((g, o') :: R) := by
  refine ⟨h.below.trans hb, by have := h.nodup; simpa using this, fun p hp => ?_⟩
  rcases List.mem_cons.1 hp with rfl | hp
  · exact ⟨h.base (p := (g, o)) (by simp), hn⟩
  · exact ⟨h.base (by simp [hp]), (hk _ (h.lt (by simp [hp])) (h.notin hp)).trans (h.at_ p (by simp [hp])).2⟩
end
/-- A slice that is owned: nil, or at the head of a block of its own. -/
def SlH (e : TypeId) (size : Nat) (v : Value) (n : Nat) (xs : List Value) (H : List (Nat × Obj)) : Prop :=
  xs.length = n * size ∧
  ((v = .slice none 0 0 ∧ n = 0 ∧ H = []) ∨
   ∃ g cap cur, v = .slice (some ⟨g, 0, none⟩) n cap ∧ n ≤ cap ∧ cap ≤ maxLen ∧ cur.size = cap * size ∧ cur.toList.take (n * size) = xs ∧ H = [(g, .cells cur e (0, 0))])
theorem SlH.nil_ (e : TypeId) (size : Nat) : SlH e size (.slice none 0 0) 0 [] [] := ⟨by simp, .inl ⟨rfl, rfl, rfl⟩⟩
theorem SlH.form {e : TypeId} {size : Nat} {v : Value} {n : Nat} {xs : List Value} {H : List (Nat × Obj)} (h : SlH e size v n xs H) : ∃ A c, v = .slice A n c ∧ n ≤ c ∧ c ≤ maxLen ∧ xs.length = n * size := by
  rcases h.2 with ⟨rfl, rfl, _⟩ | ⟨g, cap, cur, rfl, h1, h2, _⟩
  · exact ⟨none, 0, rfl, Nat.le_refl _, Nat.zero_le _, h.1⟩
  · exact ⟨_, cap, rfl, h1, h2, h.1⟩
theorem SlH.own {W w : World} {e : TypeId} {size : Nat} {v : Value} {n : Nat} {xs : List Value} {H R : List (Nat × Obj)} (h : SlH e size v n xs H) (hp : Hp W w (H ++ R)) : w.ownsRow W.heap.size e size v n xs := by
  refine ⟨h.1, ?_⟩
  rcases h.2 with ⟨rfl, rfl, rfl⟩ | ⟨g, cap, cur, rfl, h1, h2, h3, h4, rfl⟩
  · exact .inl ⟨rfl, rfl⟩
  · exact .inr ⟨g, cap, cur, rfl, hp.base (p := (g, .cells cur e (0, 0))) (by simp), hp.mem (by simp), h1, h2, h3, h4⟩
theorem SlH.of_own {w : World} {base : Nat} {e : TypeId} {size : Nat} {v : Value} {n : Nat} {xs : List Value} (h : w.ownsRow base e size v n xs) : ∃ H, SlH e size v n xs H ∧ (∀ p ∈ H, v.ownBlock = some p.1 ∧ base ≤ p.1 ∧ w.heap[p.1]? = some p.2) ∧ (H.map Prod.fst).Nodup := by
  rcases h.2 with ⟨rfl, rfl⟩ | ⟨g, cap, cur, rfl, hb, hg, h1, h2, h3, h4⟩
  · exact ⟨[], ⟨h.1, .inl ⟨rfl, rfl, rfl⟩⟩, by simp, by simp⟩
  · exact ⟨_, ⟨h.1, .inr ⟨g, cap, cur, rfl, h1, h2, h3, h4, rfl⟩⟩, by simp [Value.ownBlock, hb, hg], by simp⟩
/-- Behind an append: the fragment, with the slice's new block in the place of the old one. -/
theorem Hp.append {W w w' : World} {e : TypeId} {size : Nat} {v v' : Value} {n n' : Nat} {xs xs' : List Value} {H R : List (Nat × Obj)} (hp : Hp W w (H ++ R)) (h : SlH e size v n xs H)
    (hown : w'.ownsRow W.heap.size e size v' n' xs') (hg : w.grownBy w' v.ownBlock) (hnew : v'.ownBlock = v.ownBlock ∨ v'.ownBlock = some w.heap.size) : ∃ H', SlH e size v' n' xs' H' ∧ Hp W w' (H' ++ R) := by
  obtain ⟨H', h1, h2, h3⟩ := SlH.of_own hown
  have hv : ∀ k, v.ownBlock = some k → ∃ o, (k, o) ∈ H := by
    intro k hk
    rcases h.2 with ⟨rfl, _, rfl⟩ | ⟨g, cap, cur, rfl, _, _, _, _, rfl⟩
    · simp [Value.ownBlock] at hk
    · simp [Value.ownBlock] at hk; subst hk; exact ⟨.cells cur e (0, 0), by simp⟩
  have hdis : ∀ p ∈ R, some p.1 ≠ v.ownBlock := by
    intro p hpm he
    obtain ⟨o, ho⟩ := hv p.1 he.symm
    have hn := hp.nodup
    rw [List.map_append, List.nodup_append] at hn
    exact hn.2.2 p.1 (List.mem_map.2 ⟨_, ho, rfl⟩) p.1 (List.mem_map.2 ⟨_, hpm, rfl⟩) rfl
  have hb : Below W.heap.size w w' := (Below.refl _ _).grown hg hp.size fun k hk => by obtain ⟨o, ho⟩ := hv k hk; exact hp.base (p := (k, o)) (by simp [ho])
  refine ⟨H', h1, hp.below.trans hb, ?_, fun p hpm => ?_⟩
  · rw [List.map_append, List.nodup_append]
    refine ⟨h3, hp.right.nodup, fun a ha b hb2 => ?_⟩
    obtain ⟨p, hpm, rfl⟩ := List.mem_map.1 ha
    obtain ⟨q, hqm, rfl⟩ := List.mem_map.1 hb2
    rcases hnew with hn | hn
    · intro he; exact hdis q hqm (by rw [← hn, (h2 p hpm).1, he])
    · have h5 := (h2 p hpm).1
      rw [hn] at h5
      injection h5 with h5
      have h6 := hp.right.lt hqm
      omega
  · rcases List.mem_append.1 hpm with hm | hm
    · exact ⟨(h2 p hm).2.1, (h2 p hm).2.2⟩
    · exact ⟨hp.right.base hm, (hg.block _ (hp.right.lt hm) (hdis p hm)).trans (hp.right.at_ p hm).2⟩
/-- append onto an owned slice, its fragment at hand. -/
theorem wpList_append_H {P : Program} {W w : World} {ops : Array Oper} {rest : List Oper} {o : Oper} {a : Act} {Q : Exit → Act → World → Prop} (hgd : o.guard = none) (s x : Operand) (t : TypeId)
    (ho : o.op = .call { callee := .builtin .append, args := #[s, x], argTypes := #[t, t] })
    (e : TypeId) (i : TypeInfo) (z : Value) (size bytes : Nat) (ht : P.underlying t = some (.slice e)) (hi : P.info? e = some i) (hz : i.zero = some z)
    (hsize : i.size = size) (hby : i.bytes = bytes) (hzs : z.cells.size = size) (hsz : 0 < size)
    (v : Value) (n : Nat) (xs : List Value) (H R : List (Nat × Obj)) (hs : a.eval s = v) (hsl : SlH e size v n xs H) (hp : Hp W w (H ++ R))
    (B : Nat) (A : Option Addr) (m c : Nat) (news : List Value) (hx : a.eval x = .slice A m c) (hr : Reads w B size A m news) (h1 : ∀ u ∈ news, u.oneCell' = true)
    (h63 : n + m ≤ maxLen) (hbytes : (n + m) * bytes ≤ 140737488355328)
    (h : ∀ A' c' w' H', SlH e size (.slice A' (n + m) c') (n + m) (xs ++ news) H' → Hp W w' (H' ++ R) → wpList P ops Q rest (a.put o.dst (.slice A' (n + m) c')) w') : wpList P ops Q (o :: rest) a w :=
  wpList_append_any w hgd s x t ho W.heap.size e i z size bytes ht hi hz hsize hby hzs hsz v n xs hs (hsl.own hp) B A m c news hx hr h1 h63 hbytes hp.size fun v' w' h2 h3 h4 => by
    obtain ⟨H', h5, h6⟩ := hp.append hsl h2 h3 h4
    obtain ⟨A', c', rfl, _⟩ := h5.form
    exact h A' c' w' H' h5 h6
theorem ret_int {k : IntKind} {a b : Int} (h : a = b) : Ending.returned (.int k a) = .returned (.int k b) := by rw [h]
theorem ret_bool {a b : Bool} (h : a = b) : Ending.returned (.bool a) = .returned (.bool b) := by rw [h]
end Go.Proofs.YtnmpafcflfjhgaaGreat

/- A map of ints, whose block is known whole: asked, written, struck from, gone through. -/
import Derived.Test.YtnmpafcflfjhgaaGreatMem
import Derived.Maps.RangeWalk
namespace Go.Proofs.YtnmpafcflfjhgaaGreat
open Go.RowKit Go.ChangeMaps

/-- A map's block holds these keys and values, in the order in which they came. -/
def MapOf (es : Array MapEntry) (clock : Nat) (l : List (Int × Value)) : Prop :=
  es.toList.map (fun e => (e.key, e.val)) = l.map (fun p => (Value.int .i64 p.1, p.2)) ∧ (es.toList.map (·.born)).Nodup ∧ (∀ e ∈ es.toList, e.born < clock) ∧ (l.map Prod.fst).Nodup
theorem MapOf.empty : MapOf #[] 0 [] := ⟨rfl, by simp, by simp, by simp⟩
theorem MapOf.size {es : Array MapEntry} {clock : Nat} {l : List (Int × Value)} (h : MapOf es clock l) : es.size = l.length := by
  have := congrArg List.length h.1
  simpa using this
/-- What a map holds at a key. -/
def mapGet (l : List (Int × Value)) (k : Int) : Option Value := (l.find? fun p => p.1 == k).map (·.2)
theorem findNow_miss {es : List MapEntry} {l : List (Int × Value)} (h : es.map (fun e => (e.key, e.val)) = l.map (fun p => (Value.int .i64 p.1, p.2))) (k : Int) (i : Nat) (hk : mapGet l k = none) : Instr.findNow (.int .i64) (.int .i64 k) es i = some none := by
  induction es generalizing l i with
  | nil => rfl
  | cons e es ih =>
    cases l with
    | nil => cases h
    | cons p l =>
      simp only [List.map_cons, List.cons.injEq, Prod.mk.injEq] at h
      obtain ⟨⟨h1, _⟩, h3⟩ := h
      have hp : (p.1 == k) = false := by
        cases hq : p.1 == k
        · rfl
        · simp [mapGet, hq] at hk
      have hp2 : ¬ p.1 = k := by simpa using hp
      have hp3 : (k == p.1) = false := by simpa using fun e : k = p.1 => hp2 e.symm
      have hk2 : mapGet l k = none := by simpa [mapGet, hp] using hk
      simp only [Instr.findNow, h1, Instr.sameNow, if_true, hp3]
      exact ih h3 _ hk2
theorem findNow_hit {es : List MapEntry} {l : List (Int × Value)} (h : es.map (fun e => (e.key, e.val)) = l.map (fun p => (Value.int .i64 p.1, p.2))) (k : Int) (v : Value) (i : Nat) (hk : mapGet l k = some v) :
    ∃ j, Instr.findNow (.int .i64) (.int .i64 k) es i = some (some (i + j, v)) ∧ l[j]? = some (k, v) := by
  induction es generalizing l i with
  | nil =>
    cases l with
    | nil => simp [mapGet] at hk
    | cons p l => cases h
  | cons e es ih =>
    cases l with
    | nil => simp [mapGet] at hk
    | cons p l =>
      simp only [List.map_cons, List.cons.injEq, Prod.mk.injEq] at h
      obtain ⟨⟨h1, h2⟩, h3⟩ := h
      cases hp : p.1 == k
      · have hp2 : ¬ p.1 = k := by simpa using hp
        have hp3 : (k == p.1) = false := by simpa using fun e : k = p.1 => hp2 e.symm
        have hk2 : mapGet l k = some v := by simpa [mapGet, hp] using hk
        obtain ⟨j, e1, e2⟩ := ih h3 (i + 1) hk2
        refine ⟨j + 1, ?_, by simpa using e2⟩
        simp only [Instr.findNow, h1, Instr.sameNow, if_true, hp3]
        rw [e1, Nat.add_assoc, Nat.add_comm 1 j]
      · have hp2 : p.1 = k := by simpa using hp
        have hp3 : (k == p.1) = true := by simpa using hp2.symm
        have hv : p.2 = v := by simpa [mapGet, hp] using hk
        refine ⟨0, ?_, ?_⟩
        · simp only [Instr.findNow, h1, Instr.sameNow, if_true, hp3, h2, hv, Nat.add_zero]
        · obtain ⟨a, b⟩ := p
          simp only at hp2 hv
          subst hp2; subst hv
          rfl
section
variable {P : Program} {w : World} {t ke ee : TypeId} {g : Nat} {es : Array MapEntry} {clock : Nat} {l : List (Int × Value)}
theorem run_key (hk : P.underlying ke = some (.int .i64)) (k : Int) (e : Bool) : (Instr.checkKey e 10000 ke (.int .i64 k)).run P w = .ok () w := by
  unfold Instr.checkKey
  simp only [Sem.run_bind, run_underlying hk, Result.andThen]
  rfl
theorem run_lookup_M (ht : P.underlying t = some (.map ke ee)) (hk : P.underlying ke = some (.int .i64)) {z : Value} (hz : ∀ w, (zeroValue ee).run P w = .ok z w) (hb : w.heap[g]? = some (.map es clock)) (hl : MapOf es clock l) (k : Int) :
    (Instr.lookup t (.map (some g)) (.int .i64 k) false).run P w = .ok ((mapGet l k).getD z) w := by
  cases hm : mapGet l k with
  | none => simp [Instr.lookup, run_underlying ht, MapKept.run_getObj_map hb, run_key hk, Instr.findKey, run_underlying hk, findNow_miss hl.1 k 0 hm, hz, Result.andThen]
  | some v =>
    obtain ⟨j, e1, _⟩ := findNow_hit hl.1 k v 0 hm
    simp [Instr.lookup, run_underlying ht, MapKept.run_getObj_map hb, run_key hk, Instr.findKey, run_underlying hk, e1, Result.andThen]
theorem run_update_new (ht : P.underlying t = some (.map ke ee)) (hk : P.underlying ke = some (.int .i64)) (hb : w.heap[g]? = some (.map es clock)) (hl : MapOf es clock l) (k : Int) (v : Value) (hm : mapGet l k = none) :
    (Instr.mapUpdate t (.map (some g)) (.int .i64 k) v).run P w = .ok () (ChangeMaps.setBlock w g (.map (es.push ⟨.int .i64 k, v, clock⟩) (clock + 1))) := by
  simp [Instr.mapUpdate, run_underlying ht, MapKept.run_getObj_map hb, run_key hk, Instr.findKey, run_underlying hk, findNow_miss hl.1 k 0 hm, Result.andThen, MapKept.run_setObj_map _ hb, ChangeMaps.setBlock]
theorem MapOf.push (hl : MapOf es clock l) (k : Int) (v : Value) (hm : mapGet l k = none) : MapOf (es.push ⟨.int .i64 k, v, clock⟩) (clock + 1) (l ++ [(k, v)]) := by
  obtain ⟨h1, h2, h3, h4⟩ := hl
  refine ⟨by simp [h1], ?_, ?_, ?_⟩
  · simp only [Array.toList_push, List.map_append, List.map_cons, List.map_nil]
    rw [List.nodup_append]
    refine ⟨h2, by simp, ?_⟩
    intro a ha b hb e
    obtain ⟨x, hx, rfl⟩ := List.mem_map.1 ha
    have := h3 x hx
    simp at hb
    omega
  · intro e he
    simp only [Array.toList_push, List.mem_append, List.mem_singleton] at he
    rcases he with he | rfl
    · have := h3 e he; omega
    · exact Nat.lt_succ_self _
  · rw [List.map_append, List.nodup_append]
    refine ⟨h4, by simp, ?_⟩
    intro a ha b hb e
    obtain ⟨x, hx, rfl⟩ := List.mem_map.1 ha
    simp at hb
    have h5 := List.find?_eq_none.1 (by simpa [mapGet] using hm : l.find? (fun p => p.1 == k) = none) x hx
    simp at h5
    exact h5 (e.trans hb)
/-- One block becomes another object. -/
theorem Hp.setBlock {W : World} {o o' : Obj} {R : List (Nat × Obj)} (h : Hp W w ((g, o) :: R)) : Hp W (ChangeMaps.setBlock w g o') ((g, o') :: R) := by
  have hb := (h.at_ (g, o) (by simp)).2
  have hs := MapKept.heap_set (o' := o') hb
  refine h.turn ⟨rfl, rfl, rfl, by simp [ChangeMaps.setBlock], fun k hk => hs.2 k (fun e => ?_)⟩ hs.1 (fun k _ hne => hs.2 k hne)
  have := h.base (p := (g, o)) (by simp)
  simp only at this
  omega
end
section
variable {P : Program} (w : World) {ops : Array Oper} {rest : List Oper} {o : Oper} {a : Act} {Q : Exit → Act → World → Prop}
/-- m[k]. -/
theorem wpList_lookup_M (hg : o.guard = none) (m x : Operand) (t : TypeId) (hop : o.op = Op.lookup t m x false) (ke ee : TypeId) (ht : P.underlying t = some (.map ke ee)) (hk : P.underlying ke = some (.int .i64)) (z : Value) (hz : ∀ w, (zeroValue ee).run P w = .ok z w)
    (g : Nat) (es : Array MapEntry) (clock : Nat) (l : List (Int × Value)) (hb : w.heap[g]? = some (.map es clock)) (hl : MapOf es clock l) (k : Int) (hm : a.eval m = .map (some g)) (hx : a.eval x = .int .i64 k)
    (hK : wpList P ops Q rest (a.put o.dst ((mapGet l k).getD z)) w) : wpList P ops Q (o :: rest) a w := by
  refine wpList_plain hg fun K' hK' => ?_
  unfold Oper.wp
  simp [execOp, hop, hm, hx, run_lookup_M ht hk hz hb hl k, Result.andThen]
  exact hK' _ _ hK
/-- m[k] = v, of a key that is new. -/
theorem wpList_update_new (hg : o.guard = none) (m x v : Operand) (t : TypeId) (hop : o.op = Op.mapUpdate t m x v) (ke ee : TypeId) (ht : P.underlying t = some (.map ke ee)) (hk : P.underlying ke = some (.int .i64))
    (g : Nat) (es : Array MapEntry) (clock : Nat) (l : List (Int × Value)) (hb : w.heap[g]? = some (.map es clock)) (hl : MapOf es clock l) (k : Int) (hn : mapGet l k = none) (hm : a.eval m = .map (some g)) (hx : a.eval x = .int .i64 k) (val : Value) (hv : a.eval v = val)
    (hK : wpList P ops Q rest (a.put o.dst undef) (ChangeMaps.setBlock w g (.map (es.push ⟨.int .i64 k, val, clock⟩) (clock + 1)))) : wpList P ops Q (o :: rest) a w := by
  refine wpList_plain hg fun K' hK' => ?_
  unfold Oper.wp
  simp [execOp, hop, hm, hx, hv, run_update_new ht hk hb hl k val hn, Result.andThen]
  exact hK' _ _ hK
theorem run_len_M {w : World} {t ty ke ee : TypeId} (ht : P.underlying t = some (.map ke ee)) {g : Nat} {es : Array MapEntry} {clock : Nat} {l : List (Int × Value)} (hb : w.heap[g]? = some (.map es clock)) (hl : MapOf es clock l) :
    (Builtin.len_ #[t] ty #[.map (some g)]).run P w = .ok (.int .i64 l.length) w := by
  simp [Builtin.len_, run_underlying ht, MapKept.run_getObj_map hb, Result.andThen, hl.size, goInt]
/-- len(m). -/
theorem wpList_len_M (hg : o.guard = none) (m : Operand) (t : TypeId) (hop : o.op = Op.call { callee := Callee.builtin Builtin.len, args := #[m], argTypes := #[t] }) (ke ee : TypeId) (ht : P.underlying t = some (.map ke ee))
    (g : Nat) (es : Array MapEntry) (clock : Nat) (l : List (Int × Value)) (hb : w.heap[g]? = some (.map es clock)) (hl : MapOf es clock l) (hm : a.eval m = .map (some g))
    (hK : wpList P ops Q rest (a.put o.dst (.int .i64 l.length)) w) : wpList P ops Q (o :: rest) a w := by
  refine wpList_plain hg fun K' hK' => ?_
  have hr : (Builtin.len_ #[t] o.type #[.map (some g)]).run P w = .ok (.int .i64 l.length) w := by
    simp [Builtin.len_, run_underlying ht, MapKept.run_getObj_map hb, Result.andThen, hl.size, goInt]
  unfold Oper.wp
  simp [execOp, hop, resolve, invoke, builtin, hm, hr, Result.andThen]
  exact hK' _ _ hK
end
/-- An iterator over a map: what is still to come, in the map's order. -/
def IterOf (m : Nat) (es : Array MapEntry) (clock : Nat) (left : List (Int × Value)) (ob : Obj) : Prop :=
  ∃ since seen c0, ob = .mapIter (some m) since seen c0 ∧ (∀ e ∈ es.toList, e.born < since) ∧ since ≤ c0 ∧ since ≤ clock ∧
    (leftOf es seen).toList.map (fun e => (e.key, e.val)) = left.map (fun p => (Value.int .i64 p.1, p.2))
theorem IterOf.fresh {m : Nat} {es : Array MapEntry} {clock : Nat} {l : List (Int × Value)} (hl : MapOf es clock l) : IterOf m es clock l (.mapIter (some m) clock #[] clock) :=
  ⟨clock, #[], clock, rfl, hl.2.2.1, Nat.le_refl _, Nat.le_refl _, by
    have e : (leftOf es #[]).toList = es.toList := by unfold leftOf; simp only [Array.toList_filter]; rw [List.filter_eq_self.2]; intro x _; simp
    rw [e]; exact hl.1⟩
theorem nodup_ints {l : List Int} (h : l.Nodup) : (l.map (Value.int .i64)).Nodup := by
  unfold List.Nodup at *
  rw [List.pairwise_map]
  exact h.imp fun {a b} hne e => hne (by injection e)
theorem inj_of_nodup {α β : Type} (f : α → β) : ∀ {l : List α}, (l.map f).Nodup → ∀ {x y : α}, x ∈ l → y ∈ l → f x = f y → x = y
  | [], _, _, _, hx, _, _ => by simp at hx
  | a :: r, hn, x, y, hx, hy, h => by
    rw [List.map_cons, List.nodup_cons] at hn
    rcases List.mem_cons.1 hx with rfl | hx
    · rcases List.mem_cons.1 hy with rfl | hy
      · rfl
      · exact absurd (List.mem_map.2 ⟨y, hy, h.symm⟩) hn.1
    · rcases List.mem_cons.1 hy with hye | hy
      · have h2 : f a ∈ r.map f := by rw [← hye, ← h]; exact List.mem_map.2 ⟨x, hx, rfl⟩
        exact absurd h2 hn.1
      · exact inj_of_nodup f hn.2 hx hy h
theorem left_filter {L : List MapEntry} {left : List (Int × Value)} (h : L.map (fun e => (e.key, e.val)) = left.map (fun p => (Value.int .i64 p.1, p.2))) (b : Nat) (k : Int) (hb : ∀ x ∈ L, x.born = b ↔ x.key = .int .i64 k) :
    (L.filter fun x => !(x.born == b)).map (fun e => (e.key, e.val)) = (left.filter fun p => !(p.1 == k)).map (fun p => (Value.int .i64 p.1, p.2)) := by
  induction L generalizing left with
  | nil =>
    cases left with
    | nil => rfl
    | cons p l => cases h
  | cons e L ih =>
    cases left with
    | nil => cases h
    | cons p l =>
      simp only [List.map_cons, List.cons.injEq, Prod.mk.injEq] at h
      obtain ⟨⟨h1, h2⟩, h3⟩ := h
      have ih2 := ih h3 fun x hx => hb x (by simp [hx])
      have h4 := hb e (by simp)
      by_cases he : e.born = b
      · have h5 : p.1 = k := by have := h4.1 he; rw [h1] at this; injection this
        simp only [List.filter_cons, he, h5, beq_self_eq_true, Bool.not_true, Bool.false_eq_true, if_false]
        exact ih2
      · have h5 : ¬ p.1 = k := fun e5 => he (h4.2 (by rw [h1, e5]))
        have h6 : (e.born == b) = false := by simpa using he
        have h7 : (p.1 == k) = false := by simpa using h5
        simp only [List.filter_cons, h6, h7, Bool.not_false, if_true, List.map_cons, h1, h2, ih2]
section
variable {P : Program} (w : World) {ops : Array Oper} {rest : List Oper} {o : Oper} {a : Act} {Q : Exit → Act → World → Prop}
/-- range m. -/
theorem wpList_range_M (hg : o.guard = none) (m : Operand) (t : TypeId) (hop : o.op = Op.range t m) (ke ee : TypeId) (ht : P.underlying t = some (.map ke ee))
    (g : Nat) (es : Array MapEntry) (clock : Nat) (l : List (Int × Value)) (hb : w.heap[g]? = some (.map es clock)) (hl : MapOf es clock l) (hm : a.eval m = .map (some g))
    (hK : ∀ ob, IterOf g es clock l ob → wpList P ops Q rest (a.put o.dst (.pointer (some ⟨w.heap.size, 0, none⟩))) (w.alloc ob)) : wpList P ops Q (o :: rest) a w := by
  refine wpList_plain hg fun K' hK' => ?_
  unfold Oper.wp
  simp [execOp, hop, hm, run_range_map w t ke ee g es clock ht hb, Result.andThen]
  exact hK' _ _ (hK _ (IterOf.fresh hl))
/-- The step. -/
theorem wpList_next_M (hg : o.guard = none) (it : Operand) (hop : o.op = Op.next it false) (W : World) (r g : Nat) (es : Array MapEntry) (clock : Nat) (l left : List (Int × Value)) (ob : Obj) (R : List (Nat × Obj))
    (hp : Hp W w ((r, ob) :: R)) (hm : (g, Obj.map es clock) ∈ R) (hl : MapOf es clock l) (hio : IterOf g es clock left ob) (hit : a.eval it = .pointer (some ⟨r, 0, none⟩))
    (hDone : left = [] → wpList P ops Q rest (a.put o.dst (.tuple #[.bool false])) w)
    (hMore : ∀ (k : Int) (v : Value) (w' : World) (ob' : Obj), (k, v) ∈ left → IterOf g es clock (left.filter fun p => !(p.1 == k)) ob' → Hp W w' ((r, ob') :: R) → (Instr.entry (.pointer (some ⟨r, 0, none⟩))).run P w' = .ok (.tuple #[.int .i64 k, v]) w' →
      wpList P ops Q rest (a.put o.dst (.tuple #[.bool true, .int .i64 k, v])) w') : wpList P ops Q (o :: rest) a w := by
  refine wpList_plain hg fun K' hK' => ?_
  unfold Oper.wp
  obtain ⟨since, seen, c0, rfl, hold, hsc, hsk, hleft⟩ := hio
  have hr := (hp.at_ _ (List.mem_cons_self ..)).2
  have hb := (hp.at_ _ (List.mem_cons_of_mem _ hm)).2
  simp only at hr hb
  rcases run_next_at (P := P) w o.type r g since c0 seen es clock hr hb hold hsc with ⟨h0, hrun⟩ | ⟨e, he, w1, hal, hrun⟩
  · simp [execOp, hop, hit, hrun, Result.andThen]
    refine hK' _ _ (hDone ?_)
    have := congrArg List.length hleft
    simp only [List.length_map, Array.length_toList, h0] at this
    exact List.eq_nil_of_length_eq_zero this.symm
  · simp [execOp, hop, hit, hrun, Result.andThen]
    have hp1 : Hp W w1 ((r, Obj.mapIter (some g) since seen c0) :: R) := by
      rcases hal with rfl | rfl
      · exact hp
      · exact hp.drew
    have hp2 : Hp W (ChangeMaps.setBlock w1 r (.mapIter (some g) since (seen.push e.born) clock)) ((r, Obj.mapIter (some g) since (seen.push e.born) clock) :: R) := hp1.setBlock
    have hmem : (e.key, e.val) ∈ left.map (fun p => (Value.int .i64 p.1, p.2)) := by rw [← hleft]; exact List.mem_map.2 ⟨e, he, rfl⟩
    obtain ⟨⟨k, v⟩, hkv, hek⟩ := List.mem_map.1 hmem
    simp only [Prod.mk.injEq] at hek
    obtain ⟨h1, h2⟩ := hek
    obtain ⟨hem, hes⟩ := mem_left he
    have hr2 := (hp2.at_ _ (List.mem_cons_self ..)).2
    have hb2 := (hp2.at_ _ (List.mem_cons_of_mem _ hm)).2
    have hkeys : (es.toList.map (·.key)).Nodup := by
      have e1 : es.toList.map (·.key) = (l.map Prod.fst).map (Value.int .i64) := by
        have := congrArg (List.map Prod.fst) hl.1
        simpa [List.map_map, Function.comp_def] using this
      rw [e1]
      exact nodup_ints hl.2.2.2
    rw [← h1, ← h2]
    refine hK' _ _ (hMore k v _ _ hkv ⟨since, seen.push e.born, clock, rfl, hold, hsk, hsk, ?_⟩ hp2 ?_)
    · have e2 : (leftOf es (seen.push e.born)).toList = (leftOf es seen).toList.filter fun x => !(x.born == e.born) := by
        unfold leftOf
        simp only [Array.toList_filter, List.filter_filter]
        congr 1
        funext x
        rw [contains_push, Bool.not_or, Bool.and_comm]
      rw [e2]
      refine left_filter hleft e.born k fun x hx => ?_
      have hxm := (mem_left hx).1
      constructor
      · intro hb3
        rw [born_inj hl.2.1 hxm hem hb3, ← h1]
      · intro hk3
        have : x = e := by
          refine inj_of_nodup (fun e : MapEntry => e.key) hkeys hxm hem ?_
          show x.key = e.key
          rw [hk3, h1]
        rw [this]
    · have := run_entry_at (P := P) _ r g since seen es clock e hr2 hb2 hem hl.2.1
      rw [h1, h2]
      exact this
end
end Go.Proofs.YtnmpafcflfjhgaaGreat

/- Options of handshakes; a path's first segment. -/
import Derived.Test.YtnmpafcflfjhgaaGreatSeg
namespace Go.Proofs.YtnmpafcflfjhgaaGreat
open Go.RowKit

def keyBody (k : Int) (ans : Bool) (tag : Int) : List UInt8 := fieldBytes (8, k) ++ if ans then fieldBytes (8, tag) else []
theorem keyBody_len (k : Int) (ans : Bool) (tag : Int) : (keyBody k ans tag).length ≤ 16 := by
  have h1 := fieldBytes_len (8, k)
  have h2 := fieldBytes_len (8, tag)
  unfold keyBody
  cases ans <;> simp <;> omega
theorem field8 (n : Int) (h : U64 n) : ∀ f ∈ [((8 : Int), n)], U64 f.2 := fun f hf => by rw [List.mem_singleton.1 hf]; exact h
theorem flat1 (f : Int × Int) (l : List UInt8) : l ++ [f].flatMap fieldBytes = l ++ fieldBytes f := by simp
set_option maxHeartbeats 1000000 in
set_option maxRecDepth 10000 in
theorem keyOpt_any (w : World) (k tag : Int) (ans : Bool) (hk : U64 k) (ht : U64 tag) : Calls Tryz.prog 96 #[.agg #[.int .u64 k, .bool ans, .int .u64 tag]] w fun e w' => ∃ A c H, e = .returned (.agg #[.int .u8 1, .slice A (keyBody k ans tag).length c]) ∧ SlH 5 1 (.slice A (keyBody k ans tag).length c) (keyBody k ans tag).length ((keyBody k ans tag).map bval) H ∧ Hp w w' H := by
  have HK := Lib.hid (field8 k hk)
  have HT := Lib.hid (field8 tag ht)
  have HL : Hid ((fieldBytes (8, k)).length ≤ 100000) := Lib.hid (by have := fieldBytes_len (8, k); omega)
  cases ans
  · have HE : Hid (keyBody k false tag = fieldBytes (8, k)) := Lib.hid (by simp [keyBody])
    have HA := Lib.hid (((Hp.refl w).alloc_at (.cells #[.int .u64 k, .bool false, .int .u64 tag] 177 (0, 0)) rfl).alloc_at (n := w.heap.size + 1) (.cells #[.int .u8 0, .slice none 0 0] 47 (0, 0)) (by simp))
    go_enter Tryz.func96, Tryz.ntmps96
    go_wp2_with (first
      | (go_at_call 32; refine (Q_any _ _).mono ?_; rintro e w1 ⟨rfl, hb1⟩; (
          have hq1 := HA.out.under hb1
          have hr1 := hq1.head.cell
          have hf1 := hq1.head.frozen
          have hk1 := hq1.tail.head.cell
          have hz1 : w.heap.size < w1.heap.size := hq1.tail.head.lt
          have hz1' : w.heap.size + 1 < w1.heap.size := hq1.head.lt
          have HQ1 := Lib.hid hq1
          clear hq1 hb1))
      | (go_at_call 31; refine (put_any _ _ _ [] [((8 : Int), k)] (BytesAt.nil_ _) (FieldsAt.lit [((8 : Int), k)] (Blk.new _ _ _) HK.out (Nat.le_of_ble_eq_true rfl)) (Nat.zero_le _) (Nat.le_of_ble_eq_true rfl)).mono ?_; rintro e w2 ⟨A1, c1', H1, rfl, hs1, hp1⟩; (
          have hq2 := ((HQ1.out.skip _).join hp1).behind2
          have hr2 := hq2.head.cell
          have hf2 := hq2.head.frozen
          have hk2 := hq2.tail.head.cell
          have hz2 : w.heap.size < w2.heap.size := hq2.tail.head.lt
          have hz2' : w.heap.size + 1 < w2.heap.size := hq2.head.lt
          have HQ2 := Lib.hid hq2
          have HS := Lib.hid hs1
          have HB := Lib.hid (SlH.bytes0 hs1 hp1)
          clear hq2 hs1 hp1 hr1 hf1 hk1)))
    rw [HE.out]
    refine bodyPost_ret (v := .agg #[.int .u8 1, .slice A1 (fieldBytes (8, k)).length c1']) (by simp [results, Tryz.results96, go_sem, hr2]) rfl ⟨A1, c1', H1, rfl, by simpa using HS.out, ?_⟩
    have e := (HQ2.out.set_ 0 (.int .u8 1)).set_ 1 (.slice A1 (fieldBytes (8, k)).length c1')
    simpa using e.tail.tail.left
  · have HE : Hid (keyBody k true tag = fieldBytes (8, k) ++ fieldBytes (8, tag)) := Lib.hid (by simp [keyBody])
    have HA := Lib.hid (((Hp.refl w).alloc_at (.cells #[.int .u64 k, .bool true, .int .u64 tag] 177 (0, 0)) rfl).alloc_at (n := w.heap.size + 1) (.cells #[.int .u8 0, .slice none 0 0] 47 (0, 0)) (by simp))
    go_enter Tryz.func96, Tryz.ntmps96
    go_wp2_with (first
      | (go_at_call 32; refine (Q_any tag _).mono ?_; rintro e w3 ⟨rfl, hb3⟩; (
          have hq3 := HQ2.out.under hb3
          have hr3 := hq3.head.cell
          have hf3 := hq3.head.frozen
          have hz3' : w.heap.size + 1 < w3.heap.size := hq3.head.lt
          have HB3 := Lib.hid (HB.out.under hb3)
          have HQ3 := Lib.hid hq3
          clear hq3 hb3 hr2 hf2 hk2))
      | (go_at_call 31; refine (put_any _ _ _ (fieldBytes (8, k)) [((8 : Int), tag)] (HB3.out.under ((Below.refl _ _).alloc (Nat.le_refl _) _)) (FieldsAt.lit [((8 : Int), tag)] (Blk.new _ _ _) HT.out (Nat.le_of_ble_eq_true rfl)) HL.out (Nat.le_of_ble_eq_true rfl)).mono ?_; rintro e w4 ⟨A4, c4', H4, rfl, hs4, hp4⟩; (
          have hq4 := ((HQ3.out.skip _).join hp4).behind2
          have hr4 := hq4.head.cell
          have hf4 := hq4.head.frozen
          have hz4' : w.heap.size + 1 < w4.heap.size := hq4.head.lt
          have HQ4 := Lib.hid hq4
          have HS4 := Lib.hid hs4
          clear hq4 hs4 hp4 hr3 hf3))
      | (go_at_call 32; refine (Q_any k _).mono ?_; rintro e w1 ⟨rfl, hb1⟩; (
          have hq1 := HA.out.under hb1
          have hr1 := hq1.head.cell
          have hf1 := hq1.head.frozen
          have hk1 := hq1.tail.head.cell
          have hz1 : w.heap.size < w1.heap.size := hq1.tail.head.lt
          have hz1' : w.heap.size + 1 < w1.heap.size := hq1.head.lt
          have HQ1 := Lib.hid hq1
          clear hq1 hb1))
      | (go_at_call 31; refine (put_any _ _ _ [] [((8 : Int), k)] (BytesAt.nil_ _) (FieldsAt.lit [((8 : Int), k)] (Blk.new _ _ _) HK.out (Nat.le_of_ble_eq_true rfl)) (Nat.zero_le _) (Nat.le_of_ble_eq_true rfl)).mono ?_; rintro e w2 ⟨A1, c1', H1, rfl, hs1, hp1⟩; (
          have hq2 := ((HQ1.out.skip _).join hp1).behind2
          have hr2 := hq2.head.cell
          have hf2 := hq2.head.frozen
          have hk2 := hq2.tail.head.cell
          have hz2 : w.heap.size < w2.heap.size := hq2.tail.head.lt
          have hz2' : w.heap.size + 1 < w2.heap.size := hq2.head.lt
          have HQ2 := Lib.hid hq2
          have HS := Lib.hid hs1
          have HB := Lib.hid (SlH.bytes0 hs1 hp1)
          clear hq2 hs1 hp1 hr1 hf1 hk1)))
    have HLn : Hid ((fieldBytes (8, k) ++ [((8 : Int), tag)].flatMap fieldBytes).length = (keyBody k true tag).length) := Lib.hid (by simp [keyBody])
    rw [show (fieldBytes (8, k)).length + (fieldBytes (8, tag)).length = (keyBody k true tag).length by simp [keyBody]]
    refine bodyPost_ret (v := .agg #[.int .u8 1, .slice A4 (keyBody k true tag).length c4']) (by simp [results, Tryz.results96, go_sem, hr4]) rfl ⟨A4, c4', H4, rfl, ?_, ?_⟩
    · have e := HS4.out
      rw [HLn.out, flat1, ← HE.out] at e
      exact e
    · have e := (HQ4.out.set_ 0 (.int .u8 1)).set_ 1 (.slice A4 (keyBody k true tag).length c4')
      simpa using e.tail.tail.left

theorem info_opt : (Tryz.prog.info? 47).map (fun i => (i.zero, i.size, i.bytes)) = some (some (.agg #[.int .u8 0, .slice none 0 0]), 2, 32) := by kernel_rfl
theorem und_opts : Tryz.prog.underlying 48 = some (.slice 47) := by kernel_rfl
def optCells (x : OptP × Value) : List Value := [bval x.1.kind, x.2]
theorem pairs_at {α : Type} (f : α → Value) (g : α → Value) (l : List α) (k : Nat) (h : k < l.length) : (l.flatMap fun x => [f x, g x])[k * 2]? = some (f (l[k]'h)) ∧ (l.flatMap fun x => [f x, g x])[k * 2 + 1]? = some (g (l[k]'h)) := by
  induction l generalizing k with
  | nil => exact absurd h (Nat.not_lt_zero _)
  | cons x l ih =>
    rw [List.flatMap_cons]
    cases k with
    | zero => exact ⟨rfl, rfl⟩
    | succ k =>
      have h' : k < l.length := by simpa using h
      rw [show (k + 1) * 2 = k * 2 + 1 + 1 by omega]
      exact ih k h'
theorem pairs_len {α : Type} (f : α → Value) (g : α → Value) (l : List α) : (l.flatMap fun x => [f x, g x]).length = l.length * 2 := by
  induction l with
  | nil => rfl
  | cons x l ih => rw [List.flatMap_cons, List.length_append, ih]; simp; omega
/-- Options that read, as the rows of their cells. -/
theorem OptsIn.rows {w0 w : World} {A : Option Addr} {n c : Nat} {os : List OptP} (h : OptsIn w0 w (.slice A n c) os) : ∃ us : List Value, us.length = os.length ∧ (∀ k (h1 : k < us.length) (h2 : k < os.length), BytesAt w0 us[k] os[k].body) ∧ Reads w w.heap.size 2 A n ((os.zip us).flatMap optCells) := by
  obtain ⟨A', c', hv, h1, h2, hx⟩ := h
  injection hv with hA hn hc
  subst hA; subst hn; subst hc
  have hu : ∀ k, k < os.length → ∃ u, ∃ g off, A = some ⟨g, off, none⟩ ∧ w.cell? ⟨g, off + k * 2, none⟩ = some (bval (os.getD k ⟨0, []⟩).kind) ∧ w.cell? ⟨g, off + k * 2 + 1, none⟩ = some u ∧ BytesAt w0 u (os.getD k ⟨0, []⟩).body := by
    intro k hk
    obtain ⟨g, off, u, a1, a2, a3, a4⟩ := hx k hk
    have e : os.getD k ⟨0, []⟩ = os[k] := by rw [List.getD_eq_getElem?_getD, List.getElem?_eq_getElem hk]; rfl
    rw [e]
    exact ⟨u, g, off, a1, a2, a3, a4⟩
  let us : List Value := (List.range os.length).map fun k => if hk : k < os.length then Classical.choose (hu k hk) else .nilIface
  have hl : us.length = os.length := by simp [us]
  have hus : ∀ k (hk : k < os.length), us[k]? = some (Classical.choose (hu k hk)) := by
    intro k hk
    simp [us, hk]
  refine ⟨us, hl, fun k h3 h4 => ?_, ?_⟩
  · have e := hus k h4
    rw [List.getElem?_eq_getElem h3] at e
    injection e with e
    rw [e]
    obtain ⟨g, off, a1, a2, a3, a4⟩ := Classical.choose_spec (hu k h4)
    have e2 : os.getD k ⟨0, []⟩ = os[k] := by rw [List.getD_eq_getElem?_getD, List.getElem?_eq_getElem h4]; rfl
    exact Eq.mp (congrArg (fun o : OptP => BytesAt w0 (Classical.choose (hu k h4)) o.body) e2) a4
  · have hz : (os.zip us).length = os.length := by simp [hl]
    refine ⟨by rw [show (os.zip us).flatMap optCells = (os.zip us).flatMap fun x => [bval x.1.kind, x.2] from rfl, pairs_len, hz], fun hn => ?_⟩
    obtain ⟨u0, g, off, hA, hc0, _⟩ := hu 0 hn
    refine ⟨_, hA, World.block_lt_of_cell? w _ hc0, fun j u hj => ?_⟩
    have hjl := (List.getElem?_eq_some_iff.1 hj).1
    rw [show (os.zip us).flatMap optCells = (os.zip us).flatMap fun x => [bval x.1.kind, x.2] from rfl, pairs_len, hz] at hjl
    have hk : j / 2 < os.length := by omega
    obtain ⟨p1, p2⟩ := pairs_at (fun x : OptP × Value => bval x.1.kind) (fun x => x.2) (os.zip us) (j / 2) (by omega)
    obtain ⟨g', off', hA', q1, q2, q3⟩ := Classical.choose_spec (hu (j / 2) hk)
    rw [hA] at hA'
    injection hA' with hA'
    injection hA' with e1 e2
    subst e1; subst e2
    have hz1 : (os.zip us)[j / 2]'(by omega) = (os[j / 2], us[j / 2]'(by omega)) := by simp
    have hu1 : us[j / 2]'(by omega) = Classical.choose (hu (j / 2) hk) := by
      have e := hus (j / 2) hk
      rw [List.getElem?_eq_getElem (by omega)] at e
      injection e
    have ea : (⟨g, off, none⟩ : Addr).add j = ⟨g, off + j, none⟩ := by
      unfold Addr.add
      split
      · rename_i h0; subst h0; rfl
      · rfl
    rw [ea]
    rw [List.getD_eq_getElem?_getD, List.getElem?_eq_getElem hk] at q1
    rcases Nat.mod_two_eq_zero_or_one j with h0 | h0
    · have ej : j = j / 2 * 2 := by omega
      rw [show (os.zip us).flatMap optCells = (os.zip us).flatMap fun x => [bval x.1.kind, x.2] from rfl] at hj
      rw [ej, p1] at hj
      injection hj with hj
      rw [ej, q1, ← hj, hz1]
      rfl
    · have ej : j = j / 2 * 2 + 1 := by omega
      rw [show (os.zip us).flatMap optCells = (os.zip us).flatMap fun x => [bval x.1.kind, x.2] from rfl] at hj
      rw [ej, p2] at hj
      injection hj with hj
      rw [ej, ← Nat.add_assoc, q2, ← hj, hz1, hu1]
end Go.Proofs.YtnmpafcflfjhgaaGreat

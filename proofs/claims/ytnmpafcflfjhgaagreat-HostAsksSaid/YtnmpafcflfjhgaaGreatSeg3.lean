/- seg.Of, a path's first segment, whether a segment may be, its bytes. -/
import Derived.Test.YtnmpafcflfjhgaaGreatSeg2
namespace Go.Proofs.YtnmpafcflfjhgaaGreat
open Go.RowKit

theorem zip_at {α β : Type} {l : List α} {m : List β} (hl : m.length = l.length) (k : Nat) (h : k < l.length) : ∃ h1 : k < m.length, ∃ h2 : k < (l.zip m).length, (l.zip m)[k] = (l[k], m[k]) := ⟨by omega, by simp; omega, by simp⟩
theorem OptsIn.of_sl {W w0 w : World} {t : TypeId} {A : Option Addr} {n c : Nat} {os : List OptP} {us : List Value} {H R : Hh} (h : SlH t 2 (.slice A n c) n ((os.zip us).flatMap optCells) H) (hp : Hp W w (H ++ R)) (hl : us.length = os.length) (hu : ∀ k (h1 : k < us.length) (h2 : k < os.length), BytesAt w0 us[k] os[k].body) : OptsIn w0 w (.slice A n c) os := by
  have hz : (os.zip us).length = os.length := by simp [hl]
  have hn : os.length = n := by
    have e := h.1
    rw [show (os.zip us).flatMap optCells = (os.zip us).flatMap fun x => [bval x.1.kind, x.2] from rfl, pairs_len, hz] at e
    omega
  rcases h.2 with ⟨hv, rfl, rfl⟩ | ⟨g, cap, cur, hv, h1, h2, h3, h4, rfl⟩
  · injection hv with hA _ hc
    subst hA; subst hc
    exact ⟨none, 0, by rw [hn], by omega, Nat.zero_le _, fun k hk => by omega⟩
  · injection hv with hA _ hc
    subst hA; subst hc
    refine ⟨_, c, by rw [hn], by omega, h2, fun k hk => ?_⟩
    obtain ⟨b1, b2, b3⟩ := zip_at hl k hk
    obtain ⟨p1, p2⟩ := pairs_at (fun x : OptP × Value => bval x.1.kind) (fun x => x.2) (os.zip us) k b2
    have hb : Blk w g t cur := hp.mem (by simp)
    have key : ∀ j v, ((os.zip us).flatMap fun x => [bval x.1.kind, x.2])[j]? = some v → w.cell? ⟨g, j, none⟩ = some v := by
      intro j v hj
      rw [show ((os.zip us).flatMap fun x => [bval x.1.kind, x.2]) = (os.zip us).flatMap optCells from rfl, ← h4, List.getElem?_take] at hj
      rw [hb.cell]
      split at hj
      · simpa using hj
      · cases hj
    refine ⟨g, 0, us[k], rfl, ?_, ?_, hu k b1 hk⟩
    · rw [Nat.zero_add, key _ _ p1, b3]
    · rw [Nat.zero_add, key _ _ p2, b3]
/-- Options in a block of their own, whose bodies were there in w. -/
def OptsSl (w : World) (v : Value) (os : List OptP) (H : Hh) : Prop := ∃ us : List Value, us.length = os.length ∧ SlH 47 2 v os.length ((os.zip us).flatMap optCells) H ∧ ∀ k (h1 : k < us.length) (h2 : k < os.length), BytesAt w us[k] os[k].body
theorem OptsSl.at_ {W w w' : World} {v : Value} {os : List OptP} {H R : Hh} (h : OptsSl w v os H) (hp : Hp W w' (H ++ R)) : OptsIn w w' v os := by
  obtain ⟨us, h1, h2, h3⟩ := h
  obtain ⟨A, c, rfl, _⟩ := h2.form
  exact OptsIn.of_sl h2 hp h1 h3
set_option maxHeartbeats 1000000 in
set_option maxRecDepth 10000 in
theorem of_any (w0 w : World) (s : SegP) (A0 B : Option Addr) (n0 c0 m d : Nat) (lv : Value) (os : List OptP) (ho : OptsIn w0 w lv os) (hn : os.length ≤ 100) : Calls Tryz.prog 119 #[.agg (segCells s (.slice A0 n0 c0) (.slice B m d)), lv] w fun e w' => ∃ A c H, e = .returned (.agg (segCells s (.slice A os.length c) (.slice B m d))) ∧ OptsSl w0 (.slice A os.length c) os H ∧ Hp w w' H := by
  obtain ⟨i0, hi, hz0, hz1, hz2⟩ := info_parts info_opt
  obtain ⟨A, c, rfl⟩ := ho.form
  obtain ⟨us, hul, hub, hrd⟩ := ho.rows
  have HR := Lib.hid hrd
  have HU := Lib.hid hub
  have HLn := Lib.hid hul
  clear ho hrd hub hul
  have HA := Lib.hid (((Hp.refl w).alloc_at (.cells (segCells s (.slice A0 n0 c0) (.slice B m d)) 50 (0, 0)) rfl).alloc_at (n := w.heap.size + 1) (.cells #[.int .u16 0, .int .u16 0, .int .u32 0, .int .u32 0, .int .u8 0, .slice none 0 0, .slice none 0 0] 50 (0, 0)) (by simp))
  unfold segCells at *
  go_enter Tryz.func119, Tryz.ntmps119
  go_wp2_with (at_builtin; refine wpList_append_H (W := w) rfl _ _ 48 rfl 47 i0 (.agg #[.int .u8 0, .slice none 0 0]) 2 32 und_opts hi hz0 hz1 hz2 rfl (by decide) _ _ _ [] _ rfl (SlH.nil_ _ _) (by simpa using HA.out) w.heap.size A os.length c ((os.zip us).flatMap optCells) rfl ?c1 ?c2 ?c3 ?c4 (fun A' c' w1 H' hs1 hp1 => ?c5); case' c5 => (
    have hq1 := hp1.behind2
    have hr1 := hq1.head.cell
    have hf1 := hq1.head.frozen
    have hk1 := hq1.tail.head.cell
    have hk2 := hq1.tail.head.frozen
    have HS1 := Lib.hid hs1
    have HQ1 := Lib.hid hq1
    clear hp1 hs1 hq1))
  case c1 => exact Reads.alloc (Reads.alloc HR.out (Nat.le_refl _) _) (by simp) _
  case c2 =>
    intro u hu
    obtain ⟨x, hx, hu2⟩ := List.mem_flatMap.1 hu
    simp only [optCells, List.mem_cons, List.not_mem_nil, or_false] at hu2
    rcases hu2 with rfl | rfl
    · rfl
    · obtain ⟨k, hk, rfl⟩ := List.mem_iff_getElem.1 hx
      have hk' : k < os.length := by simp at hk; omega
      obtain ⟨b1, b2, b3⟩ := zip_at HLn.out k hk'
      obtain ⟨A9, c9, e9⟩ := (HU.out k b1 hk').form
      rw [b3]
      simp only
      rw [e9]
      rfl
  case c3 => unfold maxLen; omega
  case c4 => omega
  refine bodyPost_ret (v := .agg (segCells s (.slice A' os.length c') (.slice B m d))) (by simp [results, Tryz.results119, go_sem, hr1, segCells]) rfl ⟨A', c', H', rfl, ?_⟩
  have e := (((((((HQ1.out.move1.set_ 5 (.slice A' os.length c')).move1.set_ 0 (.int .u16 s.src)).set_ 1 (.int .u16 s.dst)).set_ 2 (.int .u32 s.seq)).set_ 3 (.int .u32 s.ack)).set_ 4 (.int .u8 s.flags)).set_ 5 (.slice A' os.length c')).set_ 6 (.slice B m d)
  exact ⟨⟨us, HLn.out, by simpa using HS1.out, HU.out⟩, by simpa using e.tail.tail⟩
end Go.Proofs.YtnmpafcflfjhgaaGreat

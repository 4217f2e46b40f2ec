/- What a connection sends is the host's: host.gather. -/
import Derived.Test.YtnmpafcflfjhgaaGreatPost
import Derived.Test.YtnmpafcflfjhgaaGreatHost3
namespace Go.Proofs.YtnmpafcflfjhgaaGreat
open Go.RowKit
theorem SlH.reads {W w : World} {e : TypeId} {size n c : Nat} {A : Option Addr} {xs : List Value} {H R : Hh} (h : SlH e size (.slice A n c) n xs H) (hs : 0 < size) (hp : Hp W w (H ++ R)) : Reads w w.heap.size size A n xs := by
  refine ⟨h.1, fun hn => ?_⟩
  rcases h.2 with ⟨h1, h2, _⟩ | ⟨g, cap, cur, h1, h2, h3, h4, h5, rfl⟩
  · subst h2; exact absurd hn (by simp)
  · obtain ⟨rfl, _⟩ : A = some ⟨g, 0, none⟩ ∧ c = cap := by simpa using h1
    refine ⟨_, rfl, hp.head.lt, fun j u hu => ?_⟩
    have e1 : (⟨g, 0, none⟩ : Addr).add j = ⟨g, j, none⟩ := by
      unfold Addr.add
      split
      · rename_i h0; subst h0; rfl
      · simp
    rw [e1, hp.head.cell]
    rw [← h5] at hu
    simp only [List.getElem?_take] at hu
    split at hu
    · simpa using hu
    · cases hu
theorem IsPkts.append {I J : Hh} {us1 us2 : List Value} {v : Value} {ps1 ps2 : List PktP} {H : Hh} (hl1 : us1.length = ps1.length) (hl2 : us2.length = ps2.length)
    (hb1 : ∀ (k : Nat) (h1 : k < us1.length) (h2 : k < ps1.length), BytesIn I (us1[k]'h1) (ps1[k]'h2).bytes) (hb2 : ∀ (k : Nat) (h1 : k < us2.length) (h2 : k < ps2.length), BytesIn J (us2[k]'h1) (ps2[k]'h2).bytes)
    (hs : SlH 54 2 v (ps1.length + ps2.length) ((ps1.zip us1).flatMap pktCells ++ (ps2.zip us2).flatMap pktCells) H) : IsPkts (J ++ I) v (ps1 ++ ps2) H := by
  refine ⟨us1 ++ us2, by simp [hl1, hl2], ?_, fun k h1 h2 => ?_⟩
  · rw [List.length_append, List.zip_append hl1.symm, List.flatMap_append]
    exact hs
  · by_cases hk : k < ps1.length
    · rw [List.getElem_append_left (by omega), List.getElem_append_left hk]
      exact (hb1 k (by omega) hk).mono fun q hq => by simp [hq]
    · rw [List.getElem_append_right (by omega), List.getElem_append_right (by omega)]
      have h3 : k - us1.length = k - ps1.length := by omega
      simp only [h3]
      have h4 : k - ps1.length < ps2.length := by simp at h2; omega
      exact (hb2 (k - ps1.length) (by omega) h4).mono fun q hq => by simp [hq]
theorem IsPkts.parts {I : Hh} {v : Value} {ps : List PktP} {H : Hh} (h : IsPkts I v ps H) : ∃ A c us, v = .slice A ps.length c ∧ us.length = ps.length ∧ SlH 54 2 (.slice A ps.length c) ps.length ((ps.zip us).flatMap pktCells) H ∧ ∀ (k : Nat) (h1 : k < us.length) (h2 : k < ps.length), BytesIn I (us[k]'h1) (ps[k]'h2).bytes := by
  obtain ⟨us, h1, h2, h3⟩ := h
  obtain ⟨A, c, rfl, _⟩ := h2.form
  exact ⟨A, c, us, rfl, h1, h2, h3⟩
theorem pkts_one {ps : List PktP} {us : List Value} {I : Hh} (hb : ∀ (k : Nat) (h1 : k < us.length) (h2 : k < ps.length), BytesIn I (us[k]'h1) (ps[k]'h2).bytes) : ∀ u ∈ (ps.zip us).flatMap pktCells, u.oneCell' = true := by
  intro u hu
  obtain ⟨x, hx, hxu⟩ := List.mem_flatMap.1 hu
  simp only [pktCells, List.mem_cons, List.not_mem_nil, or_false] at hxu
  rcases hxu with rfl | rfl
  · rfl
  · obtain ⟨k, hk, hke⟩ := List.mem_iff_getElem.1 hx
    simp only [List.length_zip] at hk
    have h1 : k < us.length := by omega
    have h2 : k < ps.length := by omega
    obtain ⟨A, c, e, _⟩ := hb k h1 h2
    rw [List.getElem_zip] at hke
    rw [← hke]
    simp only
    rw [e]
    rfl
set_option maxHeartbeats 2000000 in
set_option maxRecDepth 100000 in
theorem gather_any (I J : Hh) (W w : World) (g : Nat) (h : HostC) (x : Nat) (cs : Array Value) (pv : Value) (ps qs : List PktP) (Hq Hc R : Hh)
    (hp : Hp W w (hostH g h :: (Hq ++ ((x, .cells cs 146 (0, 0)) :: (Hc ++ R))))) (h49 : cs[49]? = some pv) (hq : IsPkts I h.post ps Hq) (hc : IsPkts J pv qs Hc) (hl1 : ps.length ≤ 100000) (hl2 : qs.length ≤ 100000) :
    Calls Tryz.prog 40 #[.pointer (some ⟨g, 0, none⟩), .pointer (some ⟨x, 0, none⟩)] w fun e w' => e = .returned (.tuple #[]) ∧
      ∃ v' Hq', IsPkts (J ++ I) v' (ps ++ qs) Hq' ∧ Hp W w' (hostH g { h with post := v' } :: (Hq' ++ ((x, .cells (cs.setIfInBounds 49 (.slice none 0 0)) 146 (0, 0)) :: R))) := by
  obtain ⟨i0, hi, hz0, hz1, hz2⟩ := info_parts info_pkt
  obtain ⟨A, c, us, hv1, hul, hs1, hb1⟩ := hq.parts
  obtain ⟨B, d, vs, rfl, hvl, hs2, hb2⟩ := hc.parts
  have hpost : ∀ w1 R1, Hp W w1 (hostH g h :: R1) → w1.cell? ⟨g, 31, none⟩ = some (.slice A ps.length c) := by
    intro w1 R1 hp1
    have := hp1.head.cell 31
    rw [this, ← hv1]
    rfl
  have hg0 := hpost _ _ hp
  have HPO := Lib.hid hpost
  have H49 := Lib.hid h49
  have hpx : Hp W w ((x, .cells cs 146 (0, 0)) :: (hostH g h :: (Hq ++ (Hc ++ R)))) := hp.perm (by classical (rw [List.perm_iff_count]; intro x; simp only [List.count_append, List.count_cons, List.count_nil]; omega))
  have HPX := Lib.hid hpx
  have HS1 := Lib.hid hs1
  have HS2 := Lib.hid hs2
  have HB1 := Lib.hid hb1
  have HB2 := Lib.hid hb2
  have HUL := Lib.hid hul
  have HVL := Lib.hid hvl
  have HOC := Lib.hid (pkts_one hb2)
  have hgl := hp.head.lt
  have HM1 : Hid (ps.length + qs.length ≤ maxLen) := by unfold Hid maxLen; omega
  have HM2 : Hid ((ps.length + qs.length) * 32 ≤ 140737488355328) := by unfold Hid; omega
  clear hp h49 hpost hs1 hs2 hb1 hb2 hul hvl hpx hq hc hv1
  go_enter Tryz.func40, Tryz.ntmps40
  go_wp2_with fail
  go_region_law (first
    | (refine step_append_H (W := W) (by rfl) _ _ 39 (by rfl) 54 i0 (.agg #[.int .i64 0, .slice none 0 0]) 2 32 und_pkts hi hz0 hz1 hz2 (by rfl) Nat.zero_lt_two (.slice A ps.length c) ps.length ((ps.zip us).flatMap pktCells) Hq _ (by rfl) HS1.out HQ1.out _ B qs.length d ((qs.zip vs).flatMap pktCells) (by rfl) HRD.out HOC.out HM1.out HM2.out ?_; intro A5 c5 w5 H5 hs5 hp5; have hk5 := HPO.out w5 _ hp5.right; have hf5 := hp5.right.head.frozen 31; have hl5 := hp5.right.head.lt)
    | (refine step_call1_H (by rfl) 70 _ Tryz.func70 (by kernel_rfl) (by rfl) _ _ (by rfl) (.pointer (some ⟨x, 0, none⟩)) (by rfl) (.slice B qs.length d) _ (connPost_any W _ x cs B qs.length d _ (HPX.out.drew) H49.out) ?_; intro w1 hp1; have hg1 := HPO.out w1 _ hp1.tail; have hgl1 := hp1.tail.head.lt; have HQ1 : Hid (Hp W w1 (Hq ++ (hostH g h :: ((x, .cells (cs.setIfInBounds 49 (.slice none 0 0)) 146 (0, 0)) :: (Hc ++ R))))) := Lib.hid (hp1.perm (by classical (rw [List.perm_iff_count]; intro x; simp only [List.count_append, List.count_cons, List.count_nil]; omega))); have HRD := Lib.hid (HS2.out.reads (R := hostH g h :: (Hq ++ ((x, .cells (cs.setIfInBounds 49 (.slice none 0 0)) 146 (0, 0)) :: R))) Nat.zero_lt_two (hp1.perm (by classical (rw [List.perm_iff_count]; intro x; simp only [List.count_append, List.count_cons, List.count_nil]; omega)))); clear hp1))
  all_goals
    go_end0
    refine ⟨rfl, .slice A5 (ps.length + qs.length) c5, H5, IsPkts.append HUL.out HVL.out HB1.out HB2.out hs5, ?_⟩
    have e1 : Hp W w5 (hostH g h :: (Hc ++ (H5 ++ ((x, .cells (cs.setIfInBounds 49 (.slice none 0 0)) 146 (0, 0)) :: R)))) := hp5.perm (by classical (rw [List.perm_iff_count]; intro x; simp only [List.count_append, List.count_cons, List.count_nil]; omega))
    have e2 := e1.set_ 31 (.slice A5 (ps.length + qs.length) c5)
    exact (e2.perm (H' := Hc ++ (hostH g { h with post := .slice A5 (ps.length + qs.length) c5 } :: (H5 ++ ((x, .cells (cs.setIfInBounds 49 (.slice none 0 0)) 146 (0, 0)) :: R)))) (List.perm_middle (l₁ := Hc) (l₂ := H5 ++ _)).symm).right
end Go.Proofs.YtnmpafcflfjhgaaGreat

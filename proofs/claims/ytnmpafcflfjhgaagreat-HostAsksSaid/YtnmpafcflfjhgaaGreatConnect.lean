/- A connection is asked for: host.Connect, where it may be. -/
import Derived.Test.YtnmpafcflfjhgaaGreatKeep
namespace Go.Proofs.YtnmpafcflfjhgaaGreat
open Go.RowKit

theorem IsConn.mono {I I' : Hh} {x : Nat} {fs : List Nat} {p : ConnP} {H : Hh} (h : IsConn I x fs p H) (hs : ∀ q ∈ I, q ∈ I') : IsConn I' x fs p H := by
  obtain ⟨fv, Hf, HF, o, Ho, ii, Hi, vv, Hv, a, Ha, mv, Hm, pv, Hc, hsf, hfl, hO, hI, hV, hT, hM, hQ, rfl⟩ := h
  exact ⟨fv, Hf, HF, o, Ho, ii, Hi, vv, Hv, a, Ha, mv, Hm, pv, Hc, hsf, hfl, hO, hI, hV, hT, hM, hQ.mono hs, rfl⟩
theorem drawn_u64 (k0 k1 n : Int) : U64 (drawn k0 k1 n) := sipSum_u64 _ _ _
def endsH (e : Nat) (path lo re : Int) : Nat × Obj := (e, .cells #[.int .i64 path, .int .u16 lo, .int .u16 re] 81 (0, 0))
set_option maxHeartbeats 4000000 in
set_option maxRecDepth 100000 in
theorem connect_ok (I : Hh) (W w : World) (g : Nat) (h : HostC) (es : Array MapEntry) (clock : Nat) (l : List (Int × Value)) (P : List (Nat × Int)) (ps : List PktP) (Hpo Hq R : Hh) (lo re path : Int)
    (hp : Hp W w (hostH g h :: (Hpo ++ (mapH h.conns es clock :: (Hq ++ R))))) (hs : SlH 78 1 h.ports P.length (P.map fun p => ptr p.1) Hpo) (hP : PortsIn P R) (hq : IsPkts I h.post ps Hq) (hl1 : ps.length ≤ 100000)
    (hml : MapOf es clock l) (hnew : mapGet l h.next = none) (hn : 0 ≤ h.next) (hn2 : h.next < 9223372036854775807) (hd : 0 ≤ h.drawn) (hd2 : h.drawn < 9223372036854775807) (hc : h.set.right = true)
    (hlo : 1 ≤ lo ∧ lo ≤ 65535) (hre : 1 ≤ re ∧ re ≤ 65535) (hfind : findPort P lo = none) (hpath : 0 ≤ path ∧ path < h.set.paths) (hroom : (l.length : Int) < h.set.conns)
    (ht : ∀ w1 X, Hp W w1 (X :: hostH g h :: (Hpo ++ (mapH h.conns es clock :: (Hq ++ R)))) → Calls Tryz.prog 26 #[.pointer (some ⟨g, 0, none⟩), .agg #[.int .i64 path, .int .u16 lo, .int .u16 re]] w1 fun e w' => e = .returned (.bool false) ∧ Hp W w' (X :: hostH g h :: (Hpo ++ (mapH h.conns es clock :: (Hq ++ R))))) :
    Calls Tryz.prog 10 #[.pointer (some ⟨g, 0, none⟩), .int .i64 lo, .int .i64 re, .int .i64 path] w fun e w' => e = .returned (.tuple #[.int .i64 h.next, .int .i64 0]) ∧
      ∃ x f E v' Hq' H' es' clock', MapOf es' clock' (l ++ [(h.next, ptr x)]) ∧ IsPkts (E ++ I) v' (ps ++ [⟨path, encode (askSeg (drawn h.k0 h.k1 h.drawn) lo re (drawn h.k0 h.k1 (h.drawn + 1) % 4294967296))⟩]) Hq' ∧
        IsConn (E ++ I) x [f] { askP h.set (drawn h.k0 h.k1 h.drawn) path lo re (drawn h.k0 h.k1 (h.drawn + 1) % 4294967296) with post := [] } H' ∧
        Hp W w' (hostH g { h with drawn := h.drawn + 2, next := h.next + 1, post := v' } :: mapH h.conns es' clock' :: (Hpo ++ (Hq' ++ (H' ++ (E ++ R))))) := by
  have hl := listener_H hp hs (P := P) (R := mapH h.conns es clock :: (Hq ++ R)) (fun p hpm => by
    obtain ⟨a, b, hab⟩ := hP p hpm
    exact ⟨a, b, by simp [hab]⟩) lo
  rw [hfind] at hl
  have hgood1 := fun w => good_any lo w
  have hgood2 := fun w => good_any re w
  simp only [show win lo 1 65535 = true from win_mk hlo.1 hlo.2] at hgood1
  simp only [show win re 1 65535 = true from win_mk hre.1 hre.2] at hgood2
  obtain ⟨hlo1, hlo2⟩ := hlo
  obtain ⟨hre1, hre2⟩ := hre
  obtain ⟨hpa1, hpa2⟩ := hpath
  have h17 : w.cell? ⟨g, 17, none⟩ = some (.int .i64 h.set.paths) := hp.head.cell 17
  have HG1 := Lib.hid hgood1
  have HG2 := Lib.hid hgood2
  have HL := Lib.hid hl
  have HC := Lib.hid hc
  have HQ := Lib.hid hq
  have HML := Lib.hid hml
  have HNEW := Lib.hid hnew
  have HA := Lib.hid (hp.alloc_at (.cells #[.int .i64 path, .int .u16 lo, .int .u16 re] 81 (0, 0)) rfl)
  have HT := Lib.hid ht
  have hgl := hp.head.lt
  have hnr : ¬ h.set.conns ≤ (l.length : Int) := by omega
  clear hgood1 hgood2 hl hc hq hml hnew ht hp hs hP hfind hroom
  go_enter Tryz.func10, Tryz.ntmps10
  go_upto_region 8 with (first
    | (go_at_call 24; (with_reducible refine (HG1.out _).mono ?_); rintro e w' ⟨rfl, rfl⟩)
    | (go_at_call 24; (with_reducible refine (HG2.out _).mono ?_); rintro e w' ⟨rfl, rfl⟩)
    | (go_at_call 25; (with_reducible refine HL.out.mono ?_); rintro e w' ⟨rfl, rfl⟩; simp only [optPtr, Option.map_none])
    | (go_at_call 26; (with_reducible refine (HT.out _ _ HA.out).mono ?_); rintro e w1 ⟨rfl, hp1⟩; (
        have hke := hp1.head.cell
        have hle := hp1.head.lt
        have HP1 := Lib.hid hp1
        clear hp1)))
  have h12 : w1.cell? ⟨g, 12, none⟩ = some (.int .i64 h.set.conns) := HP1.out.tail.head.cell 12
  have h29 : w1.cell? ⟨g, 29, none⟩ = some (.map (some h.conns)) := HP1.out.tail.head.cell 29
  have hmb : w1.heap[h.conns]? = some (.map es clock) := (HP1.out.at_ (mapH h.conns es clock) (by simp)).2
  have hlen : ∀ n, (Builtin.len_ #[ 70 ] 3 #[.map (some h.conns)]).run Tryz.prog (w1.drewN n) = .ok (.int .i64 l.length) (w1.drewN n) := fun n => run_len_M und_map hmb HML.out
  have hlen0 := hlen 0
  go_quiet (fail)
  clear hmb h12 h29 hlen hlen0 hke hle
  have HP2 := Lib.hid (HP1.out.drewN nq)
  clear HP1
  generalize w1.drewN nq = w2 at *
  go_upto_region 10 with fail
  have hgl2 : g < w2.heap.size := HP2.out.tail.head.lt
  go_cut [11, 12] (fun s11 s12 wx => s11 = .int .u64 (drawn h.k0 h.k1 h.drawn) ∧ s12 = .int .u64 (drawn h.k0 h.k1 (h.drawn + 1)) ∧ Hp W wx (hostH g { h with drawn := h.drawn + 2 } :: (endsH w.heap.size path lo re :: (Hpo ++ (mapH h.conns es clock :: (Hq ++ R))))))
  case first =>
    have HP3 : Hid (Hp W w2.drew (hostH g h :: (endsH w.heap.size path lo re :: (Hpo ++ (mapH h.conns es clock :: (Hq ++ R)))))) := Lib.hid HP2.out.drew.move1
    clear HP2
    go_region_law (first
      | (refine step_call1_H (by rfl) 27 _ Tryz.func27 (by kernel_rfl) (by rfl) _ _ (by rfl) (.pointer (some ⟨g, 25, none⟩)) (by rfl) (.int .u64 (drawn h.k0 h.k1 (h.drawn + 1))) _ (draw_any h.k0 h.k1 (h.drawn + 1) HP4.out rfl rfl rfl (by omega) (by omega)) ?_; intro w5 hp5; have hgl5 := hp5.head.lt; have HP5 := Lib.hid hp5; clear hp5)
      | (refine step_call1_H (by rfl) 27 _ Tryz.func27 (by kernel_rfl) (by rfl) _ _ (by rfl) (.pointer (some ⟨g, 25, none⟩)) (by rfl) (.int .u64 (drawn h.k0 h.k1 h.drawn)) _ (draw_any h.k0 h.k1 h.drawn HP3.out rfl rfl rfl (by omega) (by omega)) ?_; intro w4 hp4; have hgl4 := hp4.head.lt; have HP4 := Lib.hid hp4; clear hp4))
    all_goals (go_wp2_with fail; go_meet; exact ⟨rfl, rfl, HP5.out.head_eq (by simp [hostH, HostC.cells, Int.add_assoc])⟩)
  case rest =>
    obtain ⟨rfl, rfl, hp3⟩ := hcut
    have HP3 := Lib.hid hp3
    have hk := hp3.head.cell
    have hke := hp3.tail.head.cell
    have hgl3 := hp3.head.lt
    have hel3 := hp3.tail.head.lt
    have hk10 : _ = some (Value.int .i64 h.set.ports) := hk 10
    have hk11 : _ = some (Value.int .i64 h.set.half) := hk 11
    have hk12 : _ = some (Value.int .i64 h.set.conns) := hk 12
    have hk13 : _ = some (Value.int .i64 h.set.flows) := hk 13
    have hk14 : _ = some (Value.int .i64 h.set.buffer) := hk 14
    have hk15 : _ = some (Value.int .i64 h.set.chunks) := hk 15
    have hk16 : _ = some (Value.int .i64 h.set.addrs) := hk 16
    have hk17 : _ = some (Value.int .i64 h.set.paths) := hk 17
    have hk18 : _ = some (Value.int .i64 h.set.mss) := hk 18
    have hk19 : _ = some (Value.int .i64 h.set.silence) := hk 19
    have hk20 : _ = some (Value.int .i64 h.set.keep) := hk 20
    have hk21 : _ = some (Value.int .i64 h.set.burst) := hk 21
    have hk22 : _ = some (Value.int .i64 h.set.rate) := hk 22
    have hk23 : _ = some (Value.int .i64 h.set.score) := hk 23
    have hk24 : _ = some (Value.int .i64 h.set.policy) := hk 24
    have hke0 : _ = some (Value.int .i64 path) := hke 0
    have hke1 : _ = some (Value.int .u16 lo) := hke 1
    have hke2 : _ = some (Value.int .u16 re) := hke 2
    clear hp3 HP2 hgl2 hk hke
    go_upto_region 11 with fail
    go_still_tail 8, (by kernel_rfl)
    change wpList _ _ _ _ _ (World.drew _)
    have HFI : Hid (U64 (drawn h.k0 h.k1 h.drawn) ∧ (0 ≤ lo ∧ lo < 65536) ∧ (0 ≤ re ∧ re < 65536) ∧ 0 ≤ drawn h.k0 h.k1 (h.drawn + 1) % 4294967296 ∧ drawn h.k0 h.k1 (h.drawn + 1) % 4294967296 < 4294967296) := Lib.hid ⟨drawn_u64 _ _ _, ⟨by omega, by omega⟩, ⟨by omega, by omega⟩, by omega, by omega⟩
    go_wp2_with (first
      | (go_at_call 29; (with_reducible refine (keep_conn (E ++ I) W w4 g { h with drawn := h.drawn + 2 } es clock l x [f] _ ps Hq Hx (endsH w.heap.size path lo re :: (Hpo ++ (E ++ R))) HP4.out HQ4.out HI4.out hl1 HL4.out HML.out HNEW.out hn hn2).mono ?_); rintro e w5 ⟨rfl, hr⟩; (have HR := Lib.hid hr; clear hr))
      | (go_at_call 28; (refine (ask_any h.set HC.out (drawn h.k0 h.k1 h.drawn) path lo re (drawn h.k0 h.k1 (h.drawn + 1) % 4294967296) HFI.out.1 HFI.out.2.1 HFI.out.2.2.1 HFI.out.2.2.2 W _ _ HP3.out.drew).mono ?_); rintro e w4 ⟨x, f, Hx, E, rfl, hi, hp4⟩; (
          have HI4 : Hid (IsConn (E ++ I) x [f] _ Hx) := Lib.hid (hi.mono fun q hm => by simp [hm])
          have HQ4 : Hid (IsPkts (E ++ I) h.post ps Hq) := Lib.hid (HQ.out.mono fun q hm => by simp [hm])
          have HL4 : Hid ((askP h.set (drawn h.k0 h.k1 h.drawn) path lo re (drawn h.k0 h.k1 (h.drawn + 1) % 4294967296)).post.length ≤ 100000) := Lib.hid (by simp [askP])
          have HP4 : Hid (Hp W w4 (hostH g { h with drawn := h.drawn + 2 } :: mapH h.conns es clock :: (Hq ++ (Hx ++ (endsH w.heap.size path lo re :: (Hpo ++ (E ++ R))))))) := Lib.hid (hp4.perm (by classical (rw [List.perm_iff_count]; intro x; simp only [List.count_append, List.count_cons, List.count_nil]; omega)))
          clear hi hp4)))
    go_ret2
    obtain ⟨v', Hq', H', es', clock', k1, k2, k3, k4⟩ := HR.out
    refine ⟨rfl, x, f, E, v', Hq', H', es', clock', k1, k2, k3, ?_⟩
    have k5 : Hp W w5 (endsH w.heap.size path lo re :: (hostH g { h with drawn := h.drawn + 2, next := h.next + 1, post := v' } :: mapH h.conns es' clock' :: (Hpo ++ (Hq' ++ (H' ++ (E ++ R)))))) := k4.perm (by classical (rw [List.perm_iff_count]; intro x; simp only [List.count_append, List.count_cons, List.count_nil]; omega))
    exact k5.tail
end Go.Proofs.YtnmpafcflfjhgaaGreat

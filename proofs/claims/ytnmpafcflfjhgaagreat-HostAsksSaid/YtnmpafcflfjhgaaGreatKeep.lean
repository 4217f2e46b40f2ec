/- A connection has a handle: host.keep; whose first ports are taken, where there is none: host.taken. -/
import Derived.Test.YtnmpafcflfjhgaaGreatGather
import Derived.Test.YtnmpafcflfjhgaaGreatMap
namespace Go.Proofs.YtnmpafcflfjhgaaGreat
open Go.RowKit

theorem gather_conn (I : Hh) (W w : World) (g : Nat) (h : HostC) (x : Nat) (fs : List Nat) (p : ConnP) (ps : List PktP) (Hq H R : Hh)
    (hp : Hp W w (hostH g h :: (Hq ++ (H ++ R)))) (hq : IsPkts I h.post ps Hq) (hx : IsConn I x fs p H) (hl1 : ps.length ≤ 100000) (hl2 : p.post.length ≤ 100000) :
    Calls Tryz.prog 40 #[.pointer (some ⟨g, 0, none⟩), .pointer (some ⟨x, 0, none⟩)] w fun e w' => e = .returned (.tuple #[]) ∧
      ∃ v' Hq' H', IsPkts I v' (ps ++ p.post) Hq' ∧ IsConn I x fs { p with post := [] } H' ∧ Hp W w' (hostH g { h with post := v' } :: (Hq' ++ (H' ++ R))) := by
  obtain ⟨fv, Hf, HF, o, Ho, ii, Hi, vv, Hv, a, Ha, mv, Hm, pv, Hc, hsf, hfl, hO, hI, hV, hT, hM, hQ, rfl⟩ := hx
  have hp1 : Hp W w (hostH g h :: (Hq ++ ((x, .cells (p.c.cells fv o ii vv a mv pv) 146 (0, 0)) :: (Hc ++ (Hf ++ (HF ++ (Ho ++ (Hi ++ (Hv ++ (Ha ++ (Hm ++ R))))))))))) := hp.perm (by classical (rw [List.perm_iff_count]; intro x; simp only [List.count_append, List.count_cons, List.count_nil]; omega))
  refine (gather_any I I W w g h x _ pv ps p.post Hq Hc _ hp1 rfl hq hQ hl1 hl2).mono ?_
  rintro e w' ⟨rfl, v', Hq', hq', hp'⟩
  refine ⟨rfl, v', Hq', _, hq'.mono (fun q hm => by simpa using hm), ⟨fv, Hf, HF, o, Ho, ii, Hi, vv, Hv, a, Ha, mv, Hm, .slice none 0 0, [], hsf, hfl, hO, hI, hV, hT, hM, IsPkts.nil_ I, rfl⟩, ?_⟩
  have hp2 : Hp W w' (hostH g { h with post := v' } :: (Hq' ++ ((x, .cells (p.c.cells fv o ii vv a mv (.slice none 0 0)) 146 (0, 0)) :: (Hf ++ (HF ++ (Ho ++ (Hi ++ (Hv ++ (Ha ++ (Hm ++ R)))))))))) := hp'
  exact hp2.perm (by classical (rw [List.perm_iff_count]; intro x; simp only [List.count_append, List.count_cons, List.count_nil]; omega))
theorem und_int : Tryz.prog.underlying 3 = some (.int .i64) := by kernel_rfl
theorem zero_connp (w : World) : (zeroValue 84).run Tryz.prog w = .ok (.pointer none) w := by kernel_rfl
set_option maxHeartbeats 2000000 in
set_option maxRecDepth 100000 in
theorem keep_conn (I : Hh) (W w : World) (g : Nat) (h : HostC) (es : Array MapEntry) (clock : Nat) (l : List (Int × Value)) (x : Nat) (fs : List Nat) (p : ConnP) (ps : List PktP) (Hq H R : Hh)
    (hp : Hp W w (hostH g h :: mapH h.conns es clock :: (Hq ++ (H ++ R)))) (hq : IsPkts I h.post ps Hq) (hx : IsConn I x fs p H) (hl1 : ps.length ≤ 100000) (hl2 : p.post.length ≤ 100000)
    (hml : MapOf es clock l) (hnew : mapGet l h.next = none) (hn : 0 ≤ h.next) (hn2 : h.next < 9223372036854775807) :
    Calls Tryz.prog 29 #[.pointer (some ⟨g, 0, none⟩), .pointer (some ⟨x, 0, none⟩)] w fun e w' => e = .returned (.int .i64 h.next) ∧
      ∃ v' Hq' H' es' clock', MapOf es' clock' (l ++ [(h.next, ptr x)]) ∧ IsPkts I v' (ps ++ p.post) Hq' ∧ IsConn I x fs { p with post := [] } H' ∧ Hp W w' (hostH g { h with next := h.next + 1, post := v' } :: mapH h.conns es' clock' :: (Hq' ++ (H' ++ R))) := by
  have h30 : w.cell? ⟨g, 30, none⟩ = some (.int .i64 h.next) := hp.head.cell 30
  have hf30 := hp.head.frozen 30
  have hgl := hp.head.lt
  have hp1 := hp.set_ 30 (.int .i64 (h.next + 1))
  have h29 : (w.setCell ⟨g, 30, none⟩ (.int .i64 (h.next + 1))).cell? ⟨g, 29, none⟩ = some (.map (some h.conns)) := hp1.head.cell 29
  have hmb : (w.setCell ⟨g, 30, none⟩ (.int .i64 (h.next + 1))).heap[h.conns]? = some (.map es clock) := (hp1.at_ (mapH h.conns es clock) (by simp)).2
  have HP1 : Hid (Hp W (w.setCell ⟨g, 30, none⟩ (.int .i64 (h.next + 1))) (mapH h.conns es clock :: (hostH g { h with next := h.next + 1 } :: (Hq ++ (H ++ R))))) := Lib.hid (hp1.perm (List.Perm.swap ..))
  have HML := Lib.hid hml
  have HNEW := Lib.hid hnew
  have HMB := Lib.hid hmb
  have HG := Lib.hid (fun w2 e2 c2 (hp : Hp W w2 (mapH h.conns e2 c2 :: (hostH g { h with next := h.next + 1 } :: (Hq ++ (H ++ R))))) => gather_conn I W w2 g { h with next := h.next + 1 } x fs p ps Hq H (mapH h.conns e2 c2 :: R) (hp.perm (by classical (rw [List.perm_iff_count]; intro x; simp only [List.count_append, List.count_cons, List.count_nil]; omega))) hq hx hl1 hl2)
  clear hp hq hx hl1 hl2 hml hnew hp1 hmb
  go_enter Tryz.func29, Tryz.ntmps29
  go_wp2_with (first
    | (go_at_call 40; refine (HG.out _ _ _ HP2.out).mono ?_; rintro e w3 ⟨rfl, hr⟩; (have HR := Lib.hid hr; clear hr))
    | (at_mapUpdate; refine wpList_update_new _ rfl _ _ _ 70 rfl 3 84 und_map und_int h.conns es clock l HMB.out HML.out h.next HNEW.out rfl rfl (.pointer (some ⟨x, 0, none⟩)) rfl ?_; (have HP2 := Lib.hid (HP1.out.setBlock (o' := .map (es.push ⟨.int .i64 h.next, .pointer (some ⟨x, 0, none⟩), clock⟩) (clock + 1))))))
  go_ret
  obtain ⟨v', Hq', H', h1, h2, h3⟩ := HR.out
  have h4 : Hp W _ (hostH g { h with next := h.next + 1, post := v' } :: (Hq' ++ (H' ++ (mapH h.conns (es.push ⟨.int .i64 h.next, ptr x, clock⟩) (clock + 1) :: R)))) := h3
  exact ⟨rfl, v', Hq', H', _, _, HML.out.push h.next (ptr x) HNEW.out, h1, h2, h4.perm (by classical (rw [List.perm_iff_count]; intro x; simp only [List.count_append, List.count_cons, List.count_nil]; omega))⟩
set_option maxHeartbeats 2000000 in
set_option maxRecDepth 100000 in
/-- Nobody's ports are taken where there is no connection. -/
theorem taken_none (W w : World) (g : Nat) (h : HostC) (es : Array MapEntry) (clock : Nat) (path lo re : Int) (R : Hh) (hp : Hp W w (hostH g h :: mapH h.conns es clock :: R)) (hml : MapOf es clock []) :
    Calls Tryz.prog 26 #[.pointer (some ⟨g, 0, none⟩), .agg #[.int .i64 path, .int .u16 lo, .int .u16 re]] w fun e w' => e = .returned (.bool false) ∧ Hp W w' (hostH g h :: mapH h.conns es clock :: R) := by
  have h29 : w.cell? ⟨g, 29, none⟩ = some (.map (some h.conns)) := hp.head.cell 29
  have hgl := hp.head.lt
  have hp1 := hp.skip (.cells #[.int .i64 path, .int .u16 lo, .int .u16 re] 81 (0, 0))
  have hmb := (hp1.at_ (mapH h.conns es clock) (by simp)).2
  simp only [mapH] at hmb
  have HMB := Lib.hid hmb
  have HP1 := Lib.hid hp1
  have HML := Lib.hid hml
  clear hmb hp1 hp hml
  go_enter Tryz.func26, Tryz.ntmps26
  go_wp2_with (first
    | (at_range; refine wpList_range_M _ rfl _ 70 rfl 3 84 und_map h.conns es clock [] HMB.out HML.out rfl ?_; intro ob hob; (have HP2 := Lib.hid (HP1.out.alloc ob); have HOB := Lib.hid hob; clear hob)))
  go_frame
  refine wp_loop_rounds 1 ?_
  rw [rounds_succ]
  go_wp2_with (first
    | (at_next; refine wpList_next_M _ rfl _ rfl W _ h.conns es clock [] [] ob _ HP2.out (List.mem_cons_of_mem _ (List.mem_cons_self ..)) HML.out HOB.out rfl (fun _ => ?_) (fun k v w' ob' hk => absurd hk List.not_mem_nil)))
  go_ret
  exact ⟨rfl, HP2.out.tail⟩
end Go.Proofs.YtnmpafcflfjhgaaGreat

/- HostAsks, where one may ask. -/
import Derived.Test.YtnmpafcflfjhgaaGreatHostAsks
namespace Go.Proofs.YtnmpafcflfjhgaaGreat
open Go.Joins Go.ChangeShapes Go.WideShapes Go.ChangeAt Go.RowKit Go.Deep

theorem alloc_drew_kept {w : World} {o : Obj} {a : Addr} {v : Value} (h : w.cell? a = some v) : ((w.alloc o).drew).cell? a = some v := (World.cell?_alloc_lt w o a (World.block_lt_of_cell? w _ h)).trans h
theorem size_p1 {w w' : World} (h : Below w.drew.heap.size w.drew w') : w.heap.size ≤ w'.heap.size := h.size
theorem size_p2 {w w' : World} {o : Obj} (h : Below ((w.alloc o).drew).heap.size ((w.alloc o).drew) w') : w.heap.size ≤ w'.heap.size := Nat.le_trans (by show w.heap.size ≤ (w.alloc o).heap.size; rw [World.size_alloc]; omega) h.size
theorem size_p3 {w w' : World} (h : Below w.heap.size w w') : w.heap.size ≤ w'.heap.size := h.size
theorem size_p4 {w w' : World} {o : Obj} (h : Below (w.alloc o).heap.size (w.alloc o) w') : w.heap.size ≤ w'.heap.size := Nat.le_trans (by rw [World.size_alloc]; omega) h.size
theorem size_q1 {w : World} : w.heap.size ≤ w.drew.heap.size := Nat.le_refl _
theorem size_q2 {w : World} {o : Obj} : w.heap.size ≤ ((w.alloc o).drew).heap.size := by show w.heap.size ≤ (w.alloc o).heap.size; rw [World.size_alloc]; omega
theorem Below.allocS {w w' : World} (h : Below w.heap.size w w') (o : Obj) : Below w.heap.size w (w'.alloc o) := h.alloc h.size o
theorem Below.transS {w a b : World} (h : Below w.heap.size w a) (h2 : Below a.heap.size a b) : Below w.heap.size w b := h.trans (h2.mono h.size)
theorem Blk.eq {w : World} {g : Nat} {t : TypeId} {cs cs' : Array Value} (h : Blk w g t cs) (e : cs = cs') : Blk w g t cs' := by subst e; exact h
theorem BytesAt.far {w : World} {v : Value} {l : List UInt8} (h : BytesAt w v l) {g i : Nat} {u : Value} (hne : ∀ a n c, v = .slice (some a) n c → a.block ≠ g) : BytesAt (w.setCell ⟨g, i, none⟩ u) v l := by
  obtain ⟨A, c, hv, h1, h2, hx⟩ := h
  refine ⟨A, c, hv, h1, h2, fun k hl => ?_⟩
  obtain ⟨b, off, hA, hc⟩ := hx k hl
  refine ⟨b, off, hA, ?_⟩
  rw [World.cell?_setCell_other _ _ _ _ (fun e => ?_)]
  · exact hc
  · have := hne ⟨b, off, none⟩ l.length c (by rw [hv, hA])
    simp only [Addr.mk.injEq] at e
    exact this e.1.symm
theorem BytesAt.allocd {w : World} {v : Value} {l : List UInt8} (h : BytesAt w v l) (o : Obj) : BytesAt (w.alloc o) v l := h.under ((Below.refl _ _).alloc (Nat.le_refl _) o)
theorem SlB.base {W w : World} {v : Value} {l : List UInt8} {H R : Hh} (h : SlB v l H) (hp : Hp W w (H ++ R)) : ∀ a n c, v = .slice (some a) n c → W.heap.size ≤ a.block := by
  intro a n c e
  rcases h.2 with ⟨h1, _, _⟩ | ⟨g, cap, cur, h1, _, _, _, _, rfl⟩
  · rw [h1] at e; cases e
  · rw [h1] at e
    injection e with e _ _
    injection e with e
    subst e
    exact hp.base (p := (g, .cells cur 5 (0, 0))) (by simp)
/-- What it sends. -/
def asked (k0 k1 : Int) (o : AskOp) : SegP := askSeg (drawn k0 k1 0) o.a o.b (drawn k0 k1 1 % 4294967296)
def newHost (c : Cfg) (k0 k1 : Int) (m : Nat) : HostC := ⟨⟨0, 0, 0, 0, 0, 0, 0, 0, 0, 0⟩, c, k0, k1, 0, .slice none 0 0, m, 1, .slice none 0 0⟩
theorem one_pkt {A : Option Addr} {ac : Nat} {us : List Value} {p : PktP} {Hq : Hh} (hus : us.length = 1) (hs : SlH 54 2 (.slice A 1 ac) 1 (([p].zip us).flatMap pktCells) Hq) :
    ∃ q cur u, A = some ⟨q, 0, none⟩ ∧ us = [u] ∧ Hq = [(q, .cells cur 54 (0, 0))] ∧ cur[0]? = some (.int .i64 p.path) ∧ cur[1]? = some u := by
  obtain ⟨u, rfl⟩ : ∃ u, us = [u] := List.length_eq_one_iff.1 hus
  rcases hs.2 with ⟨_, h, _⟩ | ⟨q, cap, cur, h1, h2, h3, h4, h5, rfl⟩
  · cases h
  · injection h1 with hA _ _
    subst hA
    have hx : ∀ i, i < 2 → cur[i]? = ([Value.int .i64 p.path, u])[i]? := by
      intro i hi
      have e : ([Value.int .i64 p.path, u])[i]? = (cur.toList.take 2)[i]? := by rw [show cur.toList.take 2 = [Value.int .i64 p.path, u] from h5]
      rw [e, List.getElem?_take, if_pos hi]
      simp
    exact ⟨q, cur, u, rfl, rfl, rfl, hx 0 (by omega), hx 1 (by omega)⟩
theorem connect_new (W w : World) (g m : Nat) (c : Cfg) (k0 k1 lo re path : Int) (R : Hh) (hp : Hp W w (hostH g (newHost c k0 k1 m) :: mapH m #[] 0 :: R)) (hc : c.right = true) (hlo : 1 ≤ lo ∧ lo ≤ 65535) (hre : 1 ≤ re ∧ re ≤ 65535) (hpath : 0 ≤ path ∧ path < c.paths) (hroom : 0 < c.conns) :
    Calls Tryz.prog 10 #[.pointer (some ⟨g, 0, none⟩), .int .i64 lo, .int .i64 re, .int .i64 path] w fun e w' => e = .returned (.tuple #[.int .i64 1, .int .i64 0]) ∧
      ∃ x f E v' Hq' H' es' clock', MapOf es' clock' [(1, ptr x)] ∧ IsPkts E v' [⟨path, encode (askSeg (drawn k0 k1 0) lo re (drawn k0 k1 1 % 4294967296))⟩] Hq' ∧
        IsConn E x [f] { askP c (drawn k0 k1 0) path lo re (drawn k0 k1 1 % 4294967296) with post := [] } H' ∧
        Hp W w' (hostH g { newHost c k0 k1 m with drawn := 2, next := 2, post := v' } :: mapH m es' clock' :: (Hq' ++ (H' ++ (E ++ R)))) := by
  refine (connect_ok [] W w g (newHost c k0 k1 m) #[] 0 [] [] [] [] [] R lo re path hp (SlH.nil_ _ _) (fun p hp => absurd hp List.not_mem_nil) (IsPkts.nil_ _) (Nat.zero_le _) MapOf.empty rfl (show (0 : Int) ≤ 1 by decide) (show (1 : Int) < 9223372036854775807 by decide) (show (0 : Int) ≤ 0 by decide) (show (0 : Int) < 9223372036854775807 by decide) hc hlo hre rfl hpath hroom ?_).mono ?_
  · intro w1 X h
    exact (taken_none W w1 g (newHost c k0 k1 m) #[] 0 path lo re (X :: R) (h.perm (by classical (rw [List.perm_iff_count]; intro x; simp only [List.count_append, List.count_cons, List.count_nil]; omega))) MapOf.empty).mono fun e w' ⟨h1, h2⟩ => ⟨h1, h2.perm (by classical (rw [List.perm_iff_count]; intro x; simp only [List.count_append, List.count_cons, List.count_nil]; omega))⟩
  · rintro e w' ⟨h1, x, f, E, v', Hq', H', es', clock', k1, k2, k3, k4⟩
    exact ⟨h1, x, f, E, v', Hq', H', es', clock', k1, k2.mono (fun q h => by simpa using h), k3.mono (fun q h => by simpa using h), k4⟩
theorem Hp.ask8 {W w : World} {a b q op pair cfg : Nat × Obj} {H' E : Hh} (h : Hp W w (a :: b :: ([q] ++ (H' ++ (E ++ [op, pair, cfg]))))) : Hp W w (op :: pair :: q :: (E ++ (a :: b :: (H' ++ [cfg])))) := h.perm (by classical (rw [List.perm_iff_count]; intro x; simp only [List.count_append, List.count_cons, List.count_nil]; omega))
theorem u16_in {x : Int} (h0 : 0 ≤ x) (h1 : x ≤ 65535) : IntKind.u16.wrap x = x := by rw [IntKind.wrap_u16]; omega
theorem u32_of (x : Int) : IntKind.u32.wrap x = x % 4294967296 := IntKind.wrap_u32 x
set_option maxHeartbeats 40000000 in
set_option maxRecDepth 100000 in
theorem asks_main (c : Cfg) (o : AskOp) (k0 k1 : Int) (W : World) (hg : asksGuard c o) : Calls Tryz.prog 4 #[.agg c.cells, .agg #[.int .u64 k0, .int .u64 k1], .agg o.cells] W fun e w' => e = .returned (.bool true) ∧ Below W.heap.size W w' := by
  obtain ⟨hr, hc0, ha1, ha2, hb1, hb2, hp1, hp2⟩ := hg
  have href := fun w => refRight_any c w
  simp only [hr] at href
  have hcb := (Cfg.bounds hr).2.2.1
  have hz : (c.conns == 0) = false := by simpa using hc0
  have hz2 : ¬ c.conns = 0 := hc0
  have HF := Lib.hid href
  have HR := Lib.hid hr
  have HA := Lib.hid ((((Hp.refl W).alloc_at (.cells c.cells 24 (0, 0)) rfl).alloc_at (n := W.heap.size + 1) (.cells #[.int .u64 k0, .int .u64 k1] 31 (0, 0)) (by simp)).alloc_at (n := W.heap.size + 1 + 1) (.cells o.cells 36 (0, 0)) (by simp))
  have hlim : (0 : Int) < c.conns := by omega
  clear href hr hc0
  unfold Cfg.cells AskOp.cells at *
  go_enter Tryz.func4, Tryz.ntmps4
  go_upto_region 7 with (first
    | (go_at_call 7; (with_reducible refine (HF.out _).mono ?_); rintro e w2 ⟨rfl, rfl⟩)
    | (go_at_call 6; (refine (new_ok (HA.out.skip _) c k0 k1 HR.out).mono ?_); rintro e w1 ⟨g, m, rfl, hq1⟩; (
        have hoc := hq1.tail.tail.head.cell
        have hol := hq1.tail.tail.head.lt
        have HP1 := Lib.hid hq1
        clear hq1))
    | (go_at_call 10; (refine (connect_new W w1 g m c k0 k1 o.a o.b o.path _ HP1.out HR.out ⟨ha1, ha2⟩ ⟨hb1, hb2⟩ ⟨hp1, hp2⟩ hlim).mono ?_); rintro e w2 ⟨rfl, x, f, E, v', Hq', H', es', clock', kk1, kk2, kk3, kk4⟩; (
        obtain ⟨A, ac, us, rfl, hus, hsl, hbi⟩ := kk2.parts
        obtain ⟨q, cur, u, rfl, rfl, rfl, hq0, hq1⟩ := one_pkt hus hsl
        have HBI : Hid (BytesIn E u (encode (asked k0 k1 o))) := Lib.hid (hbi 0 Nat.zero_lt_one Nat.zero_lt_one)
        have HP2 := Lib.hid kk4
        have HQ0 := Lib.hid hq0
        have HQ1 := Lib.hid hq1
        clear kk1 kk2 kk3 kk4 hus hsl hbi hoc hol hq0 hq1)))
  go_upto_region 10 with (first
    | (go_at_call 11; (refine (hostPost_any W w3 g _ _ none 0 0 HP3.out rfl).mono ?_); rintro e w4 ⟨rfl, h4⟩; (have HP4 := Lib.hid h4; clear h4))
    | (go_at_call 11; (refine (hostPost_any W w2 g _ _ _ _ _ HP2.out rfl).mono ?_); rintro e w3 ⟨rfl, h3⟩; (have HP3 := Lib.hid h3; clear h3)))
  obtain ⟨X, hpf⟩ : ∃ X : Hh, Hp W w4 ((W.heap.size + 1 + 1, .cells #[.int .i64 o.kind, .int .i64 o.a, .int .i64 o.b, .int .i64 o.path] 36 (0, 0)) :: (W.heap.size + 1, .cells #[.int .u64 k0, .int .u64 k1] 31 (0, 0)) :: (q, .cells cur 54 (0, 0)) :: (E ++ X)) := ⟨_, HP4.out.ask8⟩
  have HPF := Lib.hid hpf
  clear hpf HP4 HP3 HP2 HP1 HA HF
  go_cut [12] (fun s12 wx => ∃ sg og A' n' c', s12 = .pointer (some ⟨sg, 0, none⟩) ∧ Hid (BytesAt wx (.slice A' n' c') (keyBody (drawn k0 k1 0) false 0)) ∧ Hid (Below w4.heap.size w4 wx) ∧
      Blk wx sg 50 #[.int .u16 o.a, .int .u16 o.b, .int .u32 (drawn k0 k1 1 % 4294967296), .int .u32 0, .int .u8 1, .slice (some ⟨og, 0, none⟩) 1 1, .slice none 0 0] ∧
      Blk wx og 47 #[.int .u8 1, .slice A' n' c'])
  case first =>
    have hs1 : w4.drew.cell? ⟨W.heap.size + 1 + 1, 1, none⟩ = some (.int .i64 o.a) := HPF.out.drew.head.cell 1
    have hs2 : w4.drew.cell? ⟨W.heap.size + 1 + 1, 2, none⟩ = some (.int .i64 o.b) := HPF.out.drew.head.cell 2
    have hs3 : w4.drew.cell? ⟨W.heap.size + 1, 0, none⟩ = some (.int .u64 k0) := HPF.out.drew.tail.head.cell 0
    have hs4 : w4.drew.cell? ⟨W.heap.size + 1, 1, none⟩ = some (.int .u64 k1) := HPF.out.drew.tail.head.cell 1
    have ht1 : w4.cell? ⟨W.heap.size + 1 + 1, 1, none⟩ = some (.int .i64 o.a) := HPF.out.head.cell 1
    have ht2 : w4.cell? ⟨W.heap.size + 1 + 1, 2, none⟩ = some (.int .i64 o.b) := HPF.out.head.cell 2
    have ht3 : w4.cell? ⟨W.heap.size + 1, 0, none⟩ = some (.int .u64 k0) := HPF.out.tail.head.cell 0
    have ht4 : w4.cell? ⟨W.heap.size + 1, 1, none⟩ = some (.int .u64 k1) := HPF.out.tail.head.cell 1
    have hz4 : W.heap.size + 1 + 1 < w4.heap.size := HPF.out.head.lt
    have HD1 := Lib.hid (fun w => drawn_any w k0 k1 1 ⟨by decide, by decide⟩)
    have HD0 := Lib.hid (fun w => drawn_any w k0 k1 0 ⟨by decide, by decide⟩)
    have HDK := Lib.hid (fun w => refKey_any (drawn k0 k1 0) (drawn_u64 _ _ _) w w [] (Hp.refl w))
    have hn4a : w4.heap.size ≠ W.heap.size + 1 + 1 := World.new_ne w4.drew _ hs1
    have hn4b : w4.heap.size ≠ W.heap.size + 1 := World.new_ne w4.drew _ hs3
    have hw1 : IntKind.u16.wrap o.a = o.a := u16_in (by omega) ha2
    have hw2 : IntKind.u16.wrap o.b = o.b := u16_in (by omega) hb2
    have hw3 := u32_of (drawn k0 k1 1)
    go_region_held3 (fun w' => w'.cell? ⟨W.heap.size + 1 + 1, 1, none⟩ = some (.int .i64 o.a) ∧ w'.cell? ⟨W.heap.size + 1 + 1, 2, none⟩ = some (.int .i64 o.b) ∧ w'.cell? ⟨W.heap.size + 1, 0, none⟩ = some (.int .u64 k0) ∧ w'.cell? ⟨W.heap.size + 1, 1, none⟩ = some (.int .u64 k1)) (first | ((refine ⟨?_, ?_, ?_, ?_⟩ <;> with_reducible assumption); done) | (go_keep; done))
      (first
        | (go_at_call 12; (with_reducible refine (HD1.out _).mono ?_); rintro e w5 ⟨rfl, hb5⟩; (
            have h51 : World.cell? w5 ⟨W.heap.size + 1 + 1, 1, none⟩ = some (.int .i64 o.a) := by first | with_reducible exact below_kept hb5 hs1 | with_reducible exact below_kept hb5 (alloc_drew_kept ht1)
            have h52 : World.cell? w5 ⟨W.heap.size + 1 + 1, 2, none⟩ = some (.int .i64 o.b) := by first | with_reducible exact below_kept hb5 hs2 | with_reducible exact below_kept hb5 (alloc_drew_kept ht2)
            have h53 : World.cell? w5 ⟨W.heap.size + 1, 0, none⟩ = some (.int .u64 k0) := by first | with_reducible exact below_kept hb5 hs3 | with_reducible exact below_kept hb5 (alloc_drew_kept ht3)
            have h54 : World.cell? w5 ⟨W.heap.size + 1, 1, none⟩ = some (.int .u64 k1) := by first | with_reducible exact below_kept hb5 hs4 | with_reducible exact below_kept hb5 (alloc_drew_kept ht4)
            try ((first | (have hsg5 : Blk w5 w4.heap.size 50 #[.int .u16 0, .int .u16 0, .int .u32 0, .int .u32 0, .int .u8 0, .slice none 0 0, .slice none 0 0] := by with_reducible exact ((Blk.new w4 50 #[.int .u16 0, .int .u16 0, .int .u32 0, .int .u32 0, .int .u8 0, .slice none 0 0, .slice none 0 0]).drew).under hb5)); (have hsgc5 := hsg5.cell); (have hsgf5 := hsg5.frozen); (have hsgl5 := hsg5.lt))
            have hn5a : w5.heap.size ≠ W.heap.size + 1 + 1 := World.new_ne w5 _ h51
            have hn5b : w5.heap.size ≠ W.heap.size + 1 := World.new_ne w5 _ h53
            have hl5 := hb5.size))
        | (go_at_call 12; (with_reducible refine (HD0.out _).mono ?_); rintro e w6 ⟨rfl, hb6⟩; (
            have h61 : World.cell? w6 ⟨W.heap.size + 1 + 1, 1, none⟩ = some (.int .i64 o.a) := by first | with_reducible exact below_kept hb6 h51 | with_reducible exact below_keptA hb6 h51
            have h62 : World.cell? w6 ⟨W.heap.size + 1 + 1, 2, none⟩ = some (.int .i64 o.b) := by first | with_reducible exact below_kept hb6 h52 | with_reducible exact below_keptA hb6 h52
            have h63 : World.cell? w6 ⟨W.heap.size + 1, 0, none⟩ = some (.int .u64 k0) := by first | with_reducible exact below_kept hb6 h53 | with_reducible exact below_keptA hb6 h53
            have h64 : World.cell? w6 ⟨W.heap.size + 1, 1, none⟩ = some (.int .u64 k1) := by first | with_reducible exact below_kept hb6 h54 | with_reducible exact below_keptA hb6 h54
            try ((first | (have hsg6 : Blk w6 w5.heap.size 50 #[.int .u16 0, .int .u16 0, .int .u32 0, .int .u32 0, .int .u8 0, .slice none 0 0, .slice none 0 0] := by with_reducible exact (Blk.new w5 50 #[.int .u16 0, .int .u16 0, .int .u32 0, .int .u32 0, .int .u8 0, .slice none 0 0, .slice none 0 0]).under hb6) | (have hsg6 := hsg5.under hb6)); (have hsgc6 := hsg6.cell); (have hsgf6 := hsg6.frozen); (have hsgl6 := hsg6.lt))
            have hn6a : w6.heap.size ≠ W.heap.size + 1 + 1 := World.new_ne w6 _ h61
            have hn6b : w6.heap.size ≠ W.heap.size + 1 := World.new_ne w6 _ h63
            have hl6 := hb6.size))
        | (go_at_call 13; (with_reducible refine (HDK.out _).mono ?_); rintro e w7 ⟨v7, H7, rfl, hs7, hp7⟩; (
            obtain ⟨A7, n7, rfl⟩ := hs7.form
            have h71 : World.cell? w7 ⟨W.heap.size + 1 + 1, 1, none⟩ = some (.int .i64 o.a) := by first | with_reducible exact below_kept hp7.below h61 | with_reducible exact below_keptA hp7.below h61
            have h72 : World.cell? w7 ⟨W.heap.size + 1 + 1, 2, none⟩ = some (.int .i64 o.b) := by first | with_reducible exact below_kept hp7.below h62 | with_reducible exact below_keptA hp7.below h62
            have h73 : World.cell? w7 ⟨W.heap.size + 1, 0, none⟩ = some (.int .u64 k0) := by first | with_reducible exact below_kept hp7.below h63 | with_reducible exact below_keptA hp7.below h63
            have h74 : World.cell? w7 ⟨W.heap.size + 1, 1, none⟩ = some (.int .u64 k1) := by first | with_reducible exact below_kept hp7.below h64 | with_reducible exact below_keptA hp7.below h64
            try ((first | (have hsg7 : Blk w7 w6.heap.size 50 #[.int .u16 0, .int .u16 0, .int .u32 0, .int .u32 0, .int .u8 0, .slice none 0 0, .slice none 0 0] := by with_reducible exact (Blk.new w6 50 #[.int .u16 0, .int .u16 0, .int .u32 0, .int .u32 0, .int .u8 0, .slice none 0 0, .slice none 0 0]).under hp7.below) | (have hsg7 := hsg6.under hp7.below)); (have hsgc7 := hsg7.cell); (have hsgf7 := hsg7.frozen); (have hsgl7 := hsg7.lt))
            have hn7a : w7.heap.size ≠ W.heap.size + 1 + 1 := World.new_ne w7 _ h71
            have hn7b : w7.heap.size ≠ W.heap.size + 1 := World.new_ne w7 _ h73
            have hl7 := hp7.below.size
            have hby7 := hs7.at_ hp7
            have hbs7 := hs7.base hp7)))
    all_goals
      go_wp2_with fail
      go_meet
      have hl5b : w4.heap.size ≤ w5.heap.size := by first | with_reducible exact size_p1 hb5 | with_reducible exact size_p2 hb5
      have hl6b : w5.heap.size ≤ w6.heap.size := by first | with_reducible exact size_p3 hb6 | with_reducible exact size_p4 hb6
      have hl7b : w6.heap.size ≤ w7.heap.size := by first | with_reducible exact size_p3 hp7.below | with_reducible exact size_p4 hp7.below
      clear hs1 hs2 hs3 hs4 ht1 ht2 ht3 ht4 HD1 HD0 HDK hw1 hw2 hw3
      first
        | (with_reducible refine ⟨_, w7.heap.size, A7, (keyBody (drawn k0 k1 0) false 0).length, n7, rfl, Lib.hid ?_, Lib.hid ?_, Blk.new_at _ _ ?_, (Blk.new_at _ _ ?_).alloc _⟩)
        | (with_reducible refine ⟨_, w7.heap.size + 1, A7, (keyBody (drawn k0 k1 0) false 0).length, n7, rfl, Lib.hid ?_, Lib.hid ?_, (Blk.new_at _ _ ?_).alloc _, Blk.new_at _ _ ?_⟩)
        | (with_reducible refine ⟨_, w7.heap.size, A7, (keyBody (drawn k0 k1 0) false 0).length, n7, rfl, Lib.hid ?_, Lib.hid ?_, ((((((((hsg7.set_ 0 _).set_ 1 _).set_ 2 _).set_ 3 _).set_ 4 _).set_ 5 _).set_ 6 _).alloc _).eq ?_, Blk.new_at _ _ ?_⟩)
      · repeat (first | with_reducible exact hby7 | with_reducible refine BytesAt.allocd ?_ _ | with_reducible refine BytesAt.far ?_ (fun a n c e => by have h9 := hbs7 a n c e; (try simp only [World.size_alloc] at h9); omega))
      · have hl65 := Nat.le_trans hl5b hl6b
        repeat (first | with_reducible exact Below.refl _ _ | with_reducible refine Below.allocS ?_ _ | with_reducible refine Below.setCell ?_ (by first | exact hl65 | exact hl5b | exact Nat.le_refl _) _ | with_reducible refine Below.transS ?_ hp7.below | with_reducible refine Below.transS ?_ hb6 | with_reducible refine Below.transS ?_ hb5 | with_reducible refine Below.drew ?_)
      · first | (simp; done) | rfl
      · first | (simp; done) | rfl
  case rest =>
    obtain ⟨sg, og, A', n', c', rfl, HBY, HBE, hBs, hBo⟩ := hcut
    have hcs := hBs.cell
    have hls := hBs.lt
    have hg0 := hBo.cell 0
    have hg1 := hBo.cell 1
    clear hBs hBo
    have HBF := Lib.hid (HPF.out.under HBE.out)
    have HOP : Hid (OptsIn wc wc (.slice (some ⟨og, 0, none⟩) (asked k0 k1 o).opts.length 1) (asked k0 k1 o).opts) := Lib.hid ⟨_, 1, rfl, Nat.le_refl _, by unfold maxLen; omega, fun k hk => by
      obtain rfl : k = 0 := by simpa [asked, askSeg] using hk
      exact ⟨og, 0, _, rfl, hg0, hg1, HBY.out⟩⟩
    have HOK : Hid (asked k0 k1 o).ok := Lib.hid (askSeg_ok _ _ _ _ ⟨by omega, by omega⟩ ⟨by omega, by omega⟩ ⟨by omega, by omega⟩)
    have HEN := Lib.hid (refEncode_any wc wc (asked k0 k1 o) HOK.out (some ⟨og, 0, none⟩) none 1 0 (Below.refl _ _) HOP.out (BytesAt.nil_ _))
    clear hg0 hg1
    go_upto_region 12 with (go_at_call 14; refine HEN.out.mono ?_; rintro e w9 ⟨A9, c9, H9, rfl, hs9, hp9⟩; (
      have hpf9 := HBF.out.under hp9.below
      have HB9 := Lib.hid (hs9.at_ (R := []) (by simpa using hp9))
      have HPF9 := Lib.hid hpf9
      have HBE9 := Lib.hid (HBE.out.trans (hp9.below.mono HBE.out.size))
      clear hs9 hp9 hpf9))
    have hq0 : w9.cell? ⟨q, 0, none⟩ = some (.int .i64 o.path) := by rw [HPF9.out.tail.tail.head.cell, HQ0.out]
    have hq1 : w9.cell? ⟨q, 1, none⟩ = some u := by rw [HPF9.out.tail.tail.head.cell, HQ1.out]
    have ho3 : w9.cell? ⟨W.heap.size + 1 + 1, 3, none⟩ = some (.int .i64 o.path) := HPF9.out.head.cell 3
    have hu9 : BytesAt w9 u (encode (asked k0 k1 o)) := HBI.out.at_ HPF9.out fun p hp => by simp [hp]
    have HBW : Hid (Below W.heap.size W w9) := Lib.hid HPF9.out.below
    have hql : q < w9.heap.size := HPF9.out.tail.tail.head.lt
    have hc1 : ∀ n, (convert 44 9 u).run Tryz.prog (w9.drewN n) = .ok (.string ⟨(encode (asked k0 k1 o)).toArray⟩) (w9.drewN n) := fun n => run_text (w := w9.drewN n) hu9
    have hc2 : ∀ n, (convert 44 9 (.slice A9 (encode (asked k0 k1 o)).length c9)).run Tryz.prog (w9.drewN n) = .ok (.string ⟨(encode (asked k0 k1 o)).toArray⟩) (w9.drewN n) := fun n => run_text (w := w9.drewN n) HB9.out
    have hc3 : (convert 44 9 u).run Tryz.prog w9.drew = .ok (.string ⟨(encode (asked k0 k1 o)).toArray⟩) w9.drew := hc1 1
    have hc4 : (convert 44 9 (.slice A9 (encode (asked k0 k1 o)).length c9)).run Tryz.prog w9.drew = .ok (.string ⟨(encode (asked k0 k1 o)).toArray⟩) w9.drew := hc2 1
    generalize (encode (asked k0 k1 o)).toArray = EE at *
    go_still_tail 18, (by kernel_rfl)
    change wpList _ _ _ _ _ (World.drew _)
    go_wp2_with (go_at_call 9; (with_reducible refine (alive_any _).mono ?_); rintro e w10 ⟨rfl, hb10⟩)
    go_ret
    exact ⟨rfl, HBW.out.drew.trans (hb10.mono HBW.out.size)⟩
end Go.Proofs.YtnmpafcflfjhgaaGreat

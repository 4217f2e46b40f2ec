/- The state of a connection, as the program keeps it: rings, sets, lists, paths; how each lies in memory. -/
import Derived.Test.YtnmpafcflfjhgaaGreatKeys
import Derived.Test.YtnmpafcflfjhgaaGreatRight
namespace Go.Proofs.YtnmpafcflfjhgaaGreat
open Go.RowKit

abbrev Hh := List (Nat × Obj)
/-- A ring: its bytes, as they lie, where the first one is, how many there are. -/
structure RingP where
  b : List UInt8
  at_ : Int
  n : Int
def IsRing (r : Nat) (p : RingP) (H : Hh) : Prop := ∃ g, H = [(r, .cells #[.slice (some ⟨g, 0, none⟩) p.b.length p.b.length, .int .i64 p.at_, .int .i64 p.n] 245 (0, 0)), (g, .cells (p.b.map bval).toArray 5 (0, 0))]
structure OutP where
  ring : RingP
  base : Int
  closed : Bool
  gone : Bool
def IsOut (o : Nat) (p : OutP) (H : Hh) : Prop := ∃ r Hr, IsRing r p.ring Hr ∧ H = (o, .cells #[.pointer (some ⟨r, 0, none⟩), .int .u64 p.base, .bool p.closed, .bool p.gone] 188 (0, 0)) :: Hr
/-- Pieces that rise and don't touch, at most so many. -/
structure SetP where
  most : Int
  l : List (Int × Int)
def spanCells (s : Int × Int) : List Value := [.int .u64 s.1, .int .u64 s.2]
def IsSet (s : Nat) (p : SetP) (H : Hh) : Prop := ∃ v Hl, SlH 313 2 v p.l.length (p.l.flatMap spanCells) Hl ∧ H = (s, .cells #[.int .i64 p.most, v] 286 (0, 0)) :: Hl
structure InP where
  ring : RingP
  came : SetP
  base : Int
  fin : Int
  known : Bool
def IsIn (x : Nat) (p : InP) (H : Hh) : Prop := ∃ r Hr s Hs, IsRing r p.ring Hr ∧ IsSet s p.came Hs ∧
  H = (x, .cells #[.pointer (some ⟨r, 0, none⟩), .pointer (some ⟨s, 0, none⟩), .int .u64 p.base, .int .u64 p.fin, .bool p.known] 191 (0, 0)) :: (Hr ++ Hs)
structure Chunk where
  from_ : Int
  len : Int
  fin : Bool
  flow : Int
  end_ : Int
  sent : Int
  tries : Int
  came : Bool
  lost : Bool
def Chunk.cells (c : Chunk) : List Value := [.int .u64 c.from_, .int .i64 c.len, .bool c.fin, .int .i64 c.flow, .int .u32 c.end_, .int .i64 c.sent, .int .i64 c.tries, .bool c.came, .bool c.lost]
structure WayP where
  most : Int
  l : List Chunk
def IsWay (x : Nat) (p : WayP) (H : Hh) : Prop := ∃ v Hl, SlH 266 9 v p.l.length (p.l.flatMap Chunk.cells) Hl ∧ H = (x, .cells #[.int .i64 p.most, v] 243 (0, 0)) :: Hl
structure BucketP where
  burst : Int
  rate : Int
  tokens : Int
def bucketH (b : Nat) (p : BucketP) : Nat × Obj := (b, .cells #[.int .i64 p.burst, .int .i64 p.rate, .int .i64 p.tokens] 223 (0, 0))
structure TableP where
  bucket : BucketP
  most : Int
  paths : Int
  l : List (Int × Int)
def addrCells (s : Int × Int) : List Value := [.int .i64 s.1, .int .i64 s.2]
def IsTable (x : Nat) (p : TableP) (H : Hh) : Prop := ∃ b v Hl, SlH 321 2 v p.l.length (p.l.flatMap addrCells) Hl ∧
  H = (x, .cells #[.pointer (some ⟨b, 0, none⟩), .int .i64 p.most, .int .i64 p.paths, v] 251 (0, 0)) :: bucketH b p.bucket :: Hl
structure WinP where
  mss : Int
  size : Int
  slow : Int
  part : Int
  under : Int
def winH (b : Nat) (p : WinP) : Nat × Obj := (b, .cells #[.int .i64 p.mss, .int .i64 p.size, .int .i64 p.slow, .int .i64 p.part, .int .i64 p.under] 253 (0, 0))
structure ScoreP where
  n : Int
  limit : Int
  part : Int
def scoreH (b : Nat) (p : ScoreP) : Nat × Obj := (b, .cells #[.int .i64 p.n, .int .i64 p.limit, .int .i64 p.part] 221 (0, 0))
/-- A path's own numbers. -/
structure FlowP where
  state : Int
  nfirst : Int
  acked : Int
  next : Int
  wait : Int
  srtt : Int
  dev : Int
  known : Bool
  shift : Int
  id : Int
  path : Int
  loc : Int
  rem : Int
  backup : Bool
  first : Bool
  nonce : Int
  other : Int
  win : WinP
  trust : ScoreP
  chal : BucketP
  idle : Int
  quiet : Int
  heard : Bool
  age : Int
  tries : Int
def FlowP.cells (p : FlowP) (w t c : Nat) : Array Value := #[.int .i64 p.state, .int .u32 p.nfirst, .int .u32 p.acked, .int .u32 p.next, .int .u32 p.wait, .int .i64 p.srtt, .int .i64 p.dev, .bool p.known, .int .i64 p.shift,
  .int .i64 p.id, .int .i64 p.path, .int .u16 p.loc, .int .u16 p.rem, .bool p.backup, .bool p.first, .int .u32 p.nonce, .int .u32 p.other, .pointer (some ⟨w, 0, none⟩), .pointer (some ⟨t, 0, none⟩), .pointer (some ⟨c, 0, none⟩),
  .int .i64 p.idle, .int .i64 p.quiet, .bool p.heard, .int .i64 p.age, .int .i64 p.tries]
def IsFlow (f : Nat) (p : FlowP) (H : Hh) : Prop := ∃ w t c, H = [(f, .cells (p.cells w t c) 137 (0, 0)), winH w p.win, scoreH t p.trust, bucketH c p.chal]
/-- Paths, by where they lie. -/
inductive IsFlows : List Nat → List FlowP → Hh → Prop
  | nil : IsFlows [] [] []
  | cons {f : Nat} {p : FlowP} {H1 : Hh} {fs : List Nat} {ps : List FlowP} {H2 : Hh} (h : IsFlow f p H1) (hs : IsFlows fs ps H2) : IsFlows (f :: fs) (p :: ps) (H1 ++ H2)

theorem bucketNew_any (burst rate : Int) (W w : World) (R : Hh) (hp : Hp W w R) (hb : 0 ≤ burst) (hb2 : burst ≤ 4096) (hr : 0 ≤ rate) (hr2 : rate ≤ 4096) : Calls Tryz.prog 95 #[.int .i64 burst, .int .i64 rate] w fun e w' => ∃ g, e = .returned (.pointer (some ⟨g, 0, none⟩)) ∧ Hp W w' (bucketH g ⟨burst, rate, burst⟩ :: R) := by
  have HP := Lib.hid hp
  have h1 : ¬ burst < 0 := by omega
  have h2 : ¬ rate < 0 := by omega
  have h3 : ¬ 4096 < burst := by omega
  have h4 : ¬ 4096 < rate := by omega
  clear hp
  go_enter Tryz.func95, Tryz.ntmps95
  go_wp2
  go_ret
  exact ⟨_, rfl, HP.out.alloc _⟩
theorem cwndNew_any (mss : Int) (W w : World) (R : Hh) (hp : Hp W w R) (hm : 1 ≤ mss) (hm2 : mss ≤ 1024) : Calls Tryz.prog 93 #[.int .i64 mss] w fun e w' => ∃ g, e = .returned (.pointer (some ⟨g, 0, none⟩)) ∧ Hp W w' (winH g ⟨mss, 4 * mss, 64 * mss, 0, 0⟩ :: R) := by
  have HP := Lib.hid hp
  clear hp
  go_enter Tryz.func93, Tryz.ntmps93
  go_wp2
  go_ret
  exact ⟨_, rfl, HP.out.alloc _⟩
theorem quarNew_any (limit : Int) (W w : World) (R : Hh) (hp : Hp W w R) (hm : 1 ≤ limit) (hm2 : limit ≤ 4096) : Calls Tryz.prog 94 #[.int .i64 limit] w fun e w' => ∃ g, e = .returned (.pointer (some ⟨g, 0, none⟩)) ∧ Hp W w' (scoreH g ⟨0, limit, 0⟩ :: R) := by
  have HP := Lib.hid hp
  clear hp
  go_enter Tryz.func94, Tryz.ntmps94
  go_wp2
  go_ret
  exact ⟨_, rfl, HP.out.alloc _⟩
theorem spansNew_any (most : Int) (W w : World) (R : Hh) (hp : Hp W w R) (hm : 1 ≤ most) (hm2 : most ≤ 64) : Calls Tryz.prog 134 #[.int .i64 most] w fun e w' => ∃ g H, e = .returned (.pointer (some ⟨g, 0, none⟩)) ∧ IsSet g ⟨most, []⟩ H ∧ Hp W w' (H ++ R) := by
  have HP := Lib.hid hp
  clear hp
  go_enter Tryz.func134, Tryz.ntmps134
  go_wp2
  go_ret
  exact ⟨_, _, rfl, ⟨_, [], SlH.nil_ _ _, rfl⟩, HP.out.alloc _⟩
theorem flightNew_any (most : Int) (W w : World) (R : Hh) (hp : Hp W w R) (hm : 1 ≤ most) (hm2 : most ≤ 64) : Calls Tryz.prog 91 #[.int .i64 most] w fun e w' => ∃ g H, e = .returned (.pointer (some ⟨g, 0, none⟩)) ∧ IsWay g ⟨most, []⟩ H ∧ Hp W w' (H ++ R) := by
  have HP := Lib.hid hp
  clear hp
  go_enter Tryz.func91, Tryz.ntmps91
  go_wp2
  go_ret
  exact ⟨_, _, rfl, ⟨_, [], SlH.nil_ _ _, rfl⟩, HP.out.alloc _⟩
theorem addrsNew_any (most paths : Int) (W w : World) (R : Hh) (hp : Hp W w R) (hm : 0 ≤ most) (hm2 : most ≤ 8) (h1 : 1 ≤ paths) (h2 : paths ≤ 4) : Calls Tryz.prog 92 #[.int .i64 most, .int .i64 paths] w fun e w' => ∃ g H, e = .returned (.pointer (some ⟨g, 0, none⟩)) ∧ IsTable g ⟨⟨64, 1, 64⟩, most, paths, []⟩ H ∧ Hp W w' (H ++ R) := by
  have HP := Lib.hid hp
  clear hp
  have e0 : ¬ most < 0 := by omega
  go_enter Tryz.func92, Tryz.ntmps92
  go_wp2_with ((refine (bucketNew_any 64 1 W _ R HP.out (by decide) (by decide) (by decide) (by decide)).mono ?_); rintro e w1 ⟨g, rfl, hp1⟩; (have HP1 := Lib.hid hp1; clear hp1))
  go_ret
  exact ⟨_, _, rfl, ⟨g, _, [], SlH.nil_ _ _, rfl⟩, HP1.out.alloc _⟩
end Go.Proofs.YtnmpafcflfjhgaaGreat

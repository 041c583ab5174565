/-
  Layer 16: an end, in plain Lean and in memory; bodies that can be read.
-/
import Derived.Test.YtniogmefbjfoaaaGreatGc
import Derived.Test.YtniogmefbjfoaaaGreatMap
import Derived.Test.YtniogmefbjfoaaaGreatPk3
import Derived.Test.YtniogmefbjfoaaaGreatPkD3
namespace Go.Proofs.YtniogmefbjfoaaaGreat
set_option linter.unusedSimpArgs false
set_option linter.unusedVariables false
set_option linter.unusedSectionVars false
open Go.RowKit Go.Maps

theorem RO.re {W : World} {C D : List Nat} {k n : Nat} {A : Option Addr} {xs : List Value} (h : RO W C k A n xs) (hd : ∀ i ∈ D, i ∈ C ∨ W.heap.size ≤ i) : RO W D k A n xs := ⟨h.1, fun hn a ha hm => by
  rcases hd _ hm with h1 | h1
  · exact h.2 hn a ha h1
  · obtain ⟨b, off, e, hb, _⟩ := h.1.2 hn
    rw [e] at ha
    injection ha with ha
    subst ha
    simp only at h1
    omega⟩
/-- its block is not frozen -/
def NF (W : World) (A : Option Addr) (n : Nat) : Prop := 0 < n → ∀ a, A = some a → ∃ cs t, W.heap[a.block]? = some (.cells cs t (0, 0))
theorem NF.tr {X W : World} {E E' : List Nat} {k n : Nat} {A : Option Addr} {xs : List Value} (h : NF X A n) (r : RO X E k A n xs) (t : Tr E E' X W) : NF W A n := fun hn a ha => by
  obtain ⟨cs, ty, hh⟩ := h hn a ha
  exact ⟨cs, ty, by rw [t.g.blk _ (Array.getElem?_eq_some_iff.1 hh).1 (r.2 hn a ha)]; exact hh⟩
theorem NF.own {W : World} {base k c n : Nat} {e : TypeId} {A : Option Addr} {xs : List Value} (h : W.ownsRow base e k (.slice A n c) n xs) : NF W A n := fun hn a ha => by
  rcases h.2 with ⟨_, h1⟩ | ⟨g, cap, cur, hv, _, hg, _⟩
  · omega
  · injection hv with hv
    rw [ha] at hv
    injection hv with hv
    subst hv
    exact ⟨cur, e, hg⟩
theorem NF.tc {X W : World} {C : List Nat} {k n : Nat} {A : Option Addr} {xs : List Value} (h : NF X A n) (r : RO X C k A n xs) [t : Trc C X W] : NF W A n := h.tr r t.h
theorem NF.zero (W : World) (A : Option Addr) : NF W A 0 := fun h => absurd h (by omega)
theorem NF.bel {X W : World} {A : Option Addr} {n : Nat} (h : NF X A n) (hb : Below X.heap.size X W) : NF W A n := fun hn a ha => by
  obtain ⟨cs, ty, hh⟩ := h hn a ha
  exact ⟨cs, ty, by rw [hb.block _ (Array.getElem?_eq_some_iff.1 hh).1]; exact hh⟩
theorem NF.box {W : World} {m n : Nat} {cs : Array Value} {t : TypeId} (h : BoxAt W m cs t) : NF W (some ⟨m, 0, none⟩) n := fun _ a ha => by
  injection ha with ha
  subst ha
  exact ⟨cs, t, h.eq⟩
/-- a body in memory -/
structure Bd where
  A : Option Addr
  c : Nat
  bs : List Int
  deriving Inhabited
def bdc (b : Bd) : List Value := [.slice b.A b.bs.length b.c]
def bdcs (l : List Bd) : List Value := l.flatMap bdc
theorem bdc_len (b : Bd) : (bdc b).length = 1 := rfl
theorem bdcs_len (l : List Bd) : (bdcs l).length = l.length * 1 := flat_length bdc_len l
theorem bdcs_app (l m : List Bd) : bdcs (l ++ m) = bdcs l ++ bdcs m := List.flatMap_append
theorem bdcs_one (l : List Bd) : ∀ u ∈ bdcs l, u.oneCell' = true := by
  intro u hu
  obtain ⟨p, _, hp⟩ := List.mem_flatMap.1 hu
  simp [bdc] at hp
  subst hp
  rfl
theorem Tryz.okBd : ElemOk Tryz.prog 66 37 1 24 := elemOk_of (.slice none 0 0) Tryz.underlying66 (by kernel_rfl) rfl (by omega)
theorem Reads.atBd {w : World} {B : Nat} {A : Option Addr} {n k : Nat} {l : List Bd} (h : Reads w B 1 A n (bdcs l)) (hk : k < n) :
    ∃ b off p, A = some ⟨b, off, none⟩ ∧ b < B ∧ l[k]? = some p ∧ w.cell? ⟨b, off + k, none⟩ = some (.slice p.A p.bs.length p.c) := by
  obtain ⟨b, off, rfl, hb, hcl⟩ := h.2 (by omega)
  have hl : k < l.length := by have := h.1; rw [bdcs_len] at this; omega
  have hp : l[k]? = some l[k] := List.getElem?_eq_getElem hl
  refine ⟨b, off, l[k], rfl, hb, hp, ?_⟩
  have := hcl (k * 1 + 0) _ (by rw [bdcs, flat_get bdc_len l k 0 _ hp (by omega)]; rfl)
  rw [Nat.mul_one, Nat.add_zero] at this
  exact this
/-- bodies that can be read -/
structure BdsR (W : World) (A : Option Addr) (ds : List Bd) : Prop where
  r : Reads W W.heap.size 1 A ds.length (bdcs ds)
  b : ∀ d ∈ ds, Reads W W.heap.size 1 d.A d.bs.length (bcs d.bs)
theorem BdsR.step {X W : World} {A : Option Addr} {ds : List Bd} (h : BdsR X A ds) (hb : Below X.heap.size X W) : BdsR W A ds := ⟨(h.r.below hb).more hb.size, fun d hd => ((h.b d hd).below hb).more hb.size⟩
/-- bodies in blocks from B on -/
structure BdsN (W : World) (B : Nat) (A : Option Addr) (ds : List Bd) : Prop where
  o : BdsR W A ds
  n : ∀ a, A = some a → B ≤ a.block
  m : ∀ d ∈ ds, ∀ a, d.A = some a → B ≤ a.block
/-- bodies that nobody writes -/
structure Bds (W : World) (E : List Nat) (A : Option Addr) (ds : List Bd) : Prop where
  r : RO W E 1 A ds.length (bdcs ds)
  b : ∀ d ∈ ds, RO W E 1 d.A d.bs.length (bcs d.bs)
theorem Bds.tr {X W : World} {E E' : List Nat} {A : Option Addr} {ds : List Bd} (h : Bds X E A ds) (t : Tr E E' X W) : Bds W E' A ds := ⟨h.r.tr t, fun d hd => (h.b d hd).tr t⟩
theorem Bds.re {W : World} {E D : List Nat} {A : Option Addr} {ds : List Bd} (h : Bds W E A ds) (hd : ∀ i ∈ D, i ∈ E ∨ W.heap.size ≤ i) : Bds W D A ds := ⟨h.r.re hd, fun d hm => (h.b d hm).re hd⟩
theorem Bds.rd {W : World} {E : List Nat} {A : Option Addr} {ds : List Bd} (h : Bds W E A ds) : BdsR W A ds := ⟨h.r.1, fun d hd => (h.b d hd).1⟩
theorem BdsN.ro {W : World} {B : Nat} {E : List Nat} {A : Option Addr} {ds : List Bd} (h : BdsN W B A ds) (hE : ∀ i ∈ E, i < B) : Bds W E A ds := ⟨.new h.o.r h.n hE, fun d hd => .new (h.o.b d hd) (h.m d hd) hE⟩
theorem Bds.nil (W : World) (E : List Nat) (A : Option Addr) : Bds W E A [] := ⟨.nil _ _ _ _, fun _ h => by cases h⟩
/-! ### an end, plainly -/
def uadd (x : Int) : Int := IntKind.u64.wrap (x + 1)
structure Rw where
  cn : Int
  rl : Bool
  ba : Int
  bx : List (List Int)
  ak : Int
  st : Int
  deriving Inhabited
structure Cm where
  i : Int
  c : Int
  g : Int
  deriving Inhabited
structure En where
  n : Int
  i : Int
  rw : Int → Rw
  cm : Int → Option Cm
/-- is it another node? -/
def En.oth (m : En) (n : Int) : Prop := 1 ≤ n ∧ n ≤ 10 ∧ n ≠ m.n
instance (m : En) (n : Int) : Decidable (m.oth n) := by unfold En.oth; infer_instance
structure RwOk (r : Rw) : Prop where
  bl : r.bx.length ≤ 48
  b0 : 0 ≤ r.ba
  bm : r.ba + r.bx.length ≤ 34359738367
  bb : ∀ b ∈ r.bx, 1 ≤ b.length ∧ b.length ≤ 320
  s0 : 0 ≤ r.st
  s1 : r.st ≤ 18446744073709551615
/-- a row in memory, in block g -/
def RwM (W : World) (E : List Nat) (g : Nat) (r : Rw) : Prop := RwOk r ∧ ∃ A c ds, BoxAt W g #[.int .u64 r.cn, .bool r.rl, .int .u64 r.ba, .slice A r.bx.length c, .int .u64 r.ak, .int .u64 r.st] 70 ∧ Bds W E A ds ∧ ds.map Bd.bs = r.bx ∧ r.bx.length ≤ c
theorem RwM.lt {W : World} {E : List Nat} {g : Nat} {r : Rw} (h : RwM W E g r) : g < W.heap.size := by obtain ⟨_, _, _, _, h, _⟩ := h; exact h.lt
/-- what a row is made of stays while its own block does -/
theorem RwM.keep {X W : World} {E E' : List Nat} {g : Nat} {r : Rw} (h : RwM X E g r) (t : Tr E E' X W) (hg : W.heap[g]? = X.heap[g]?) : RwM W E' g r := by
  obtain ⟨h0, A, c, ds, h1, h2, h3⟩ := h
  exact ⟨h0, A, c, ds, ⟨by rw [hg]; exact h1.eq⟩, h2.tr t, h3⟩
theorem RwM.re {W : World} {E D : List Nat} {g : Nat} {r : Rw} (h : RwM W E g r) (hd : ∀ i ∈ D, i ∈ E ∨ W.heap.size ≤ i) : RwM W D g r := by
  obtain ⟨h0, A, c, ds, h1, h2, h3⟩ := h
  exact ⟨h0, A, c, ds, h1, h2.re hd, h3⟩
abbrev cmcs (c : Cm) : Array Value := #[.int .u64 c.i, .int .u64 c.c, .int .u64 c.g]
/-- what lies at a key of the rows, of what came -/
def rowsF (m : En) (rp : Int → Nat) (v : Value) : Option Value :=
  match v with
  | .int .i64 n => if m.oth n then some (.pointer (some ⟨rp n, 0, none⟩)) else none
  | _ => none
def cameF (m : En) (cp : Int → Nat) (v : Value) : Option Value :=
  match v with
  | .int .i64 n => match m.cm n with
    | some _ => some (.pointer (some ⟨cp n, 0, none⟩))
    | none => none
  | _ => none
/-- an end in memory, in block x: it writes the blocks in C; in those of E somebody writes -/
structure EnM (W : World) (E C : List Nat) (x : Nat) (m : En) (rb fb : Nat) (rp cp : Int → Nat) : Prop where
  n1 : 1 ≤ m.n ∧ m.n ≤ 10
  bx : BoxAt W x #[.int .i64 m.n, .int .u64 m.i, .map (some rb), .map (some fb)] 64
  xE : x ∉ E
  rm : MapF W 3 rb 9 (rowsF m rp)
  rE : rb ∉ E
  fm : MapF W 3 fb 10 (cameF m cp)
  fC : fb ∈ C
  CE : ∀ i ∈ C, i ∈ E
  ltE : ∀ i ∈ E, i < W.heap.size
  ro : ∀ n, m.oth n → RwM W E (rp n) (m.rw n) ∧ rp n ∈ C
  ri : ∀ n k, m.oth n → m.oth k → rp n = rp k → n = k
  co : ∀ n c, m.cm n = some c → BoxAt W (cp n) (cmcs c) 115 ∧ cp n ∈ C
  ci : ∀ n k, m.cm n ≠ none → m.cm k ≠ none → cp n = cp k → n = k
  cn : ∀ n, m.cm n ≠ none → 1 ≤ n ∧ n ≤ 10
def EnO (W : World) (E C : List Nat) (x : Nat) (m : En) : Prop := ∃ rb fb rp cp, EnM W E C x m rb fb rp cp
theorem MapF.same {X W : World} {k : TypeId} {b n : Nat} {f : Value → Option Value} (h : MapF X k b n f) (hb : W.heap[b]? = X.heap[b]?) : MapF W k b n f := by
  obtain ⟨D, ⟨es, clock, h1, h3⟩, h2⟩ := h
  exact ⟨D, ⟨es, clock, hb.trans h1, h3⟩, h2⟩
/-- an end stays while all that it writes does -/
theorem EnM.keep {X W : World} {E E' C : List Nat} {x : Nat} {m : En} {rb fb : Nat} {rp cp : Int → Nat} (h : EnM X E C x m rb fb rp cp) (t : Tr E E' X W) (hC : ∀ i ∈ C, W.heap[i]? = X.heap[i]?) (hs : ∀ i ∈ C, i ∈ E') (hl : ∀ i ∈ E', i < W.heap.size) : EnM W E' C x m rb fb rp cp where
  n1 := h.n1
  bx := (t.box h.bx h.xE).1
  xE := (t.box h.bx h.xE).2
  rm := h.rm.same (t.g.blk rb h.rm.lt h.rE)
  rE := fun hm => by
    rcases t.n _ hm with h1 | h1
    · exact h.rE h1
    · have := h.rm.lt; omega
  fm := h.fm.same (hC _ h.fC)
  fC := h.fC
  CE := hs
  ltE := hl
  ro := fun n hn => ⟨(h.ro n hn).1.keep t (hC _ (h.ro n hn).2), (h.ro n hn).2⟩
  ri := h.ri
  co := fun n c hc => ⟨⟨by rw [hC _ (h.co n c hc).2]; exact (h.co n c hc).1.eq⟩, (h.co n c hc).2⟩
  ci := h.ci
  cn := h.cn
theorem EnM.below {X W : World} {E C : List Nat} {x : Nat} {m : En} {rb fb : Nat} {rp cp : Int → Nat} (h : EnM X E C x m rb fb rp cp) (hb : Below X.heap.size X W) : EnM W E C x m rb fb rp cp :=
  h.keep (.bel hb) (fun i hi => hb.block i (h.ltE i (h.CE i hi))) h.CE (fun i hi => Nat.lt_of_lt_of_le (h.ltE i hi) hb.size)
theorem EnO.below {X W : World} {E C : List Nat} {x : Nat} {m : En} (h : EnO X E C x m) (hb : Below X.heap.size X W) : EnO W E C x m := by
  obtain ⟨rb, fb, rp, cp, h⟩ := h
  exact ⟨rb, fb, rp, cp, h.below hb⟩
/-- another one's step -/
theorem EnO.other {X W : World} {E E' C : List Nat} {x : Nat} {m : En} (h : EnO X E C x m) {D D' : List Nat} (t : Tr D D' X W) (hD : ∀ i ∈ D, i ∈ E ∧ i ∉ C) (hE : ∀ i ∈ E', i ∈ E ∨ i ∈ D') (hE2 : ∀ i ∈ C, i ∈ E') (hl : ∀ i ∈ E', i < W.heap.size) : EnO W E' C x m := by
  obtain ⟨rb, fb, rp, cp, h⟩ := h
  refine ⟨rb, fb, rp, cp, h.keep ⟨t.g.mono' (fun i hi => (hD i hi).1), fun i hi => ?_⟩ (fun i hi => t.g.blk i (h.ltE i (h.CE i hi)) (fun hm => (hD i hm).2 hi)) hE2 hl⟩
  rcases hE i hi with h1 | h1
  · exact .inl h1
  · rcases t.n i h1 with h2 | h2
    · exact .inl (hD i h2).1
    · exact .inr h2
end Go.Proofs.YtniogmefbjfoaaaGreat

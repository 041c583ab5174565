/-
  Layer 6: packets are read: contract: Decode.
-/
import Derived.Test.YtniogmefbjfoaaaGreatPkD
import Derived.Test.YtniogmefbjfoaaaGreatTcY
import Derived.Test.YtniogmefbjfoaaaGreatPkE2
namespace Go.Proofs.YtniogmefbjfoaaaGreat
set_option linter.unusedSimpArgs false
set_option linter.unusedVariables false
set_option linter.unusedSectionVars false
open Go.RowKit

/-- a packet -/
structure Pk where
  k : Int
  n : Int
  i : Int
  hp : Int
  hs : List Hd
  bs : List Int
  an : Int
  ai : Int
  sq : Int
  ps : List Pr
  deriving Inhabited
abbrev pk0 : Pk := ⟨0, 0, 0, 0, [], [], 0, 0, 0, []⟩
def Pk.mayB (x : Pk) : Bool := mayKB x.k x.n x.i x.hp x.hs x.bs x.an x.ai x.sq x.ps
abbrev Pk.at (x : Pk) (HA : Option Addr) (hcp : Nat) (BA : Option Addr) (bcp : Nat) (PA : Option Addr) (pcp : Nat) : Value := PkV x.k x.n x.i x.hp HA x.hs.length hcp BA x.bs.length bcp x.an x.ai x.sq PA x.ps.length pcp
/-- where its rows lie -/
structure PkIn (w : World) (x : Pk) (HA BA PA : Option Addr) : Prop where
  h : Reads w w.heap.size 4 HA x.hs.length (hcs x.hs)
  b : Reads w w.heap.size 1 BA x.bs.length (bcs x.bs)
  p : Sl w PA x.ps
  hl : x.hs.length ≤ 1000000
  bl : x.bs.length ≤ 1000000
  pl : x.ps.length ≤ 1000000
theorem PkIn.tc {a W : World} {x : Pk} {HA BA PA : Option Addr} (h : PkIn a x HA BA PA) [b : Blw a W] : PkIn W x HA BA PA := ⟨(h.h.below b.h).more b.h.size, (h.b.below b.h).more b.h.size, h.p.tc, h.hl, h.bl, h.pl⟩
/-- a packet in new memory, and an error's number -/
def RetPk (w : World) (x : Pk) (err : Int) (e : Ending) (w' : World) : Prop := ∃ HA hcp BA bcp PA pcp, e = .returned (.tuple #[x.at HA hcp BA bcp PA pcp, .int .i64 err]) ∧ PkIn w' x HA BA PA ∧ Below w.heap.size w w'
def RetDecK (w : World) : Option Pk → Ending → World → Prop
  | none => RetPk w pk0 3
  | some x => RetPk w x 0
theorem pk0_in (w : World) : PkIn w pk0 none none none := ⟨Reads.none_, Reads.none_, Reads.none_, by simp, by simp, by simp⟩
theorem RetDecK.no {w w' : World} (hb : Below w.heap.size w w') : RetDecK w none (.returned (.tuple #[PkV 0 0 0 0 none 0 0 none 0 0 0 0 0 none 0 0, .int .i64 3])) w' := ⟨none, 0, none, 0, none, 0, rfl, pk0_in w', hb⟩
theorem sl_of {w : World} {base : Nat} {e : TypeId} {A : Option Addr} {c : Nat} {l : List Pr} (h : w.ownsRow base e 2 (.slice A l.length c) l.length (pcs l)) : Sl w A l := Reads.of_own h
theorem sl_nil (w : World) : Sl w none [] := Reads.none_
def finK (x : Pk) (s : RS) : Option Pk := if s.2 = true ∨ 0 < s.1.length then none else if x.mayB = false then none else some x
/-- what bytes are read as -/
def decK (bs : List Int) : Option Pk :=
  let a := rU8 (bs, false)
  if a.1 = 1 then
    let b := rGet a.2
    let c := rUint b.2
    let d := rLives c.2
    finK ⟨1, 0, 0, 0, [], [], b.1.1, b.1.2, c.1, d.1⟩ d.2
  else if a.1 = 2 then
    let b := rGet a.2
    let c := rU8 b.2
    let d := rHeads false c.2
    let e := rText 320 d.2
    finK ⟨2, b.1.1, b.1.2, c.1, d.1, e.1, 0, 0, 0, []⟩ e.2
  else if a.1 = 3 then
    let b := rGet a.2
    let c := rU8 b.2
    let d := rHeads true c.2
    finK ⟨3, b.1.1, b.1.2, c.1, d.1, [], 0, 0, 0, []⟩ d.2
  else none
end Go.Proofs.YtniogmefbjfoaaaGreat

namespace Go.Proofs.YtniogmefbjfoaaaGreat
set_option linter.unusedSimpArgs false
set_option linter.unusedVariables false
set_option linter.unusedSectionVars false
open Go.RowKit

theorem rU8_bk {s : RS} (h : bOK s.1) : bOK (rU8 s).2.1 := by
  obtain ⟨bs, bad⟩ := s
  cases bs with
  | nil => simpa [rU8] using h
  | cons b bs => cases bad <;> simp [rU8] <;> first | exact h | exact fun x hx => h x (List.mem_cons_of_mem _ hx)
theorem rUint_bk {s : RS} (h : bOK s.1) : bOK (rUint s).2.1 := by
  unfold rUint
  split
  · exact h
  · exact h.drop _
theorem rGet_bk {s : RS} (h : bOK s.1) : bOK (rGet s).2.1 := by
  have h2 := rUint_bk (rU8_bk h)
  unfold rGet
  split <;> exact h2
theorem rHd_bk (ack : Bool) {s : RS} (h : bOK s.1) : bOK (rHd ack s).2.1 := by
  have h1 := rUint_bk (rUint_bk (rU8_bk h))
  unfold rHd
  cases ack
  · exact h1
  · exact rUint_bk h1
theorem rHds_bk (ack : Bool) : ∀ (k : Nat) (s : RS) (acc : List Hd), bOK s.1 → bOK (rHds ack k s acc).2.1
  | 0, _, _, h => h
  | k + 1, s, acc, h => by rw [rHds]; exact rHds_bk ack k _ _ (rHd_bk ack h)
theorem rHeads_bk (ack : Bool) {s : RS} (h : bOK s.1) : bOK (rHeads ack s).2.1 := rHds_bk ack _ _ _ (rU8_bk h)
theorem rText_bk (most : Nat) {s : RS} (h : bOK s.1) : bOK (rText most s).1 ∧ bOK (rText most s).2.1 := by
  unfold rText
  split
  · exact ⟨bOK.nil, h⟩
  · exact ⟨fun x hx => h.drop _ x (List.mem_of_mem_take hx), (h.drop _).drop _⟩
theorem rText_len (most : Nat) (s : RS) : (rText most s).1.length ≤ s.1.length ∧ (rText most s).2.1.length ≤ s.1.length := by
  unfold rText
  split
  · simp
  · simp only [List.length_take, List.length_drop]; omega
theorem rLvs_len : ∀ (k : Nat) (s : RS) (acc : List Pr), (rLvs k s acc).1.length = acc.length + k ∧ (rLvs k s acc).2.1.length ≤ s.1.length
  | 0, _, _ => ⟨rfl, Nat.le_refl _⟩
  | k + 1, s, acc => by
    have h1 := rLvs_len k (rGet s).2 (acc ++ [(rGet s).1])
    have h2 := rGet_len s
    rw [rLvs]
    simp only [List.length_append, List.length_singleton] at h1
    omega
theorem rHd_len (ack : Bool) (s : RS) : (rHd ack s).2.1.length ≤ s.1.length := by
  have h1 := rU8_len s
  have h2 := rUint_len (rU8 s).2
  have h3 := rUint_len (rUint (rU8 s).2).2
  have h4 := rUint_len (rUint (rUint (rU8 s).2).2).2
  unfold rHd
  cases ack <;> simp <;> omega
theorem rHds_len (ack : Bool) : ∀ (k : Nat) (s : RS) (acc : List Hd), (rHds ack k s acc).1.length = acc.length + k ∧ (rHds ack k s acc).2.1.length ≤ s.1.length
  | 0, _, _ => ⟨rfl, Nat.le_refl _⟩
  | k + 1, s, acc => by
    have h1 := rHds_len ack k (rHd ack s).2 (acc ++ [(rHd ack s).1])
    have h2 := rHd_len ack s
    rw [rHds]
    simp only [List.length_append, List.length_singleton] at h1
    omega
theorem rLives_len {s : RS} (h : bOK s.1) : (rLives s).1.length ≤ 255 ∧ (rLives s).2.1.length ≤ s.1.length := by
  have h1 := rLvs_len (rU8 s).1.toNat (rU8 s).2 []
  have h2 := rU8_len s
  have h3 := rU8_range h
  simp only [List.length_nil] at h1
  unfold rLives
  omega
theorem rHeads_len (ack : Bool) {s : RS} (h : bOK s.1) : (rHeads ack s).1.length ≤ 255 ∧ (rHeads ack s).2.1.length ≤ s.1.length := by
  have h1 := rHds_len ack (rU8 s).1.toNat (rU8 s).2 []
  have h2 := rU8_len s
  have h3 := rU8_range h
  simp only [List.length_nil] at h1
  unfold rHeads
  omega
end Go.Proofs.YtniogmefbjfoaaaGreat

/-
  Layer 6: packets are read: contract: Decode.
-/
import Derived.Test.YtggmninbpnolgaaGreatPkD
import Derived.Test.YtggmninbpnolgaaGreatPkT
import Derived.Test.YtggmninbpnolgaaGreatTcY
import Derived.Test.YtggmninbpnolgaaGreatPkE2
namespace Go.Proofs.YtggmninbpnolgaaGreat
set_option linter.unusedSimpArgs false
set_option linter.unusedVariables false
set_option linter.unusedSectionVars false
open Go.RowKit

/-- a packet -/
structure Pk where
  k : Int
  n : Int
  i : Int
  hp : Int
  hs : List Hd
  bs : List Int
  an : Int
  ai : Int
  sq : Int
  ps : List Pr
  deriving Inhabited
abbrev pk0 : Pk := ⟨0, 0, 0, 0, [], [], 0, 0, 0, []⟩
def Pk.mayB (x : Pk) : Bool := mayKB x.k x.n x.i x.hp x.hs x.bs x.an x.ai x.sq x.ps
abbrev Pk.at (x : Pk) (HA : Option Addr) (hcp : Nat) (BA : Option Addr) (bcp : Nat) (PA : Option Addr) (pcp : Nat) : Value := PkV x.k x.n x.i x.hp HA x.hs.length hcp BA x.bs.length bcp x.an x.ai x.sq PA x.ps.length pcp
/-- where its rows lie -/
structure PkIn (w : World) (x : Pk) (HA BA PA : Option Addr) : Prop where
  h : Reads w w.heap.size 4 HA x.hs.length (hcs x.hs)
  b : Reads w w.heap.size 1 BA x.bs.length (bcs x.bs)
  p : Sl w PA x.ps
  hl : x.hs.length ≤ 1000000
  bl : x.bs.length ≤ 1000000
  pl : x.ps.length ≤ 1000000
theorem PkIn.tc {a W : World} {x : Pk} {HA BA PA : Option Addr} (h : PkIn a x HA BA PA) [b : Blw a W] : PkIn W x HA BA PA := ⟨(h.h.below b.h).more b.h.size, (h.b.below b.h).more b.h.size, h.p.tc, h.hl, h.bl, h.pl⟩
/-- a packet in new memory, and an error's number -/
def RetPk (w : World) (x : Pk) (err : Int) (e : Ending) (w' : World) : Prop := ∃ HA hcp BA bcp PA pcp, e = .returned (.tuple #[x.at HA hcp BA bcp PA pcp, .int .i64 err]) ∧ PkIn w' x HA BA PA ∧ Below w.heap.size w w'
def RetDecK (w : World) : Option Pk → Ending → World → Prop
  | none => RetPk w pk0 3
  | some x => RetPk w x 0
theorem pk0_in (w : World) : PkIn w pk0 none none none := ⟨Reads.none_, Reads.none_, Reads.none_, by simp, by simp, by simp⟩
theorem RetDecK.no {w w' : World} (hb : Below w.heap.size w w') : RetDecK w none (.returned (.tuple #[PkV 0 0 0 0 none 0 0 none 0 0 0 0 0 none 0 0, .int .i64 3])) w' := ⟨none, 0, none, 0, none, 0, rfl, pk0_in w', hb⟩
theorem sl_of {w : World} {base : Nat} {e : TypeId} {A : Option Addr} {c : Nat} {l : List Pr} (h : w.ownsRow base e 2 (.slice A l.length c) l.length (pcs l)) : Sl w A l := Reads.of_own h
theorem sl_nil (w : World) : Sl w none [] := Reads.none_
def finK (x : Pk) (s : RS) : Option Pk := if s.2 = true ∨ 0 < s.1.length then none else if x.mayB = false then none else some x
/-- what bytes are read as -/
def decK (bs : List Int) : Option Pk :=
  let a := rU8 (bs, false)
  if a.1 = 1 then
    let b := rGet a.2
    let c := rUint b.2
    let d := rLives c.2
    finK ⟨1, 0, 0, 0, [], [], b.1.1, b.1.2, c.1, d.1⟩ d.2
  else if a.1 = 2 then
    let b := rGet a.2
    let c := rU8 b.2
    let d := rHeads false c.2
    let e := rText 320 d.2
    finK ⟨2, b.1.1, b.1.2, c.1, d.1, e.1, 0, 0, 0, []⟩ e.2
  else if a.1 = 3 then
    let b := rGet a.2
    let c := rU8 b.2
    let d := rHeads true c.2
    finK ⟨3, b.1.1, b.1.2, c.1, d.1, [], 0, 0, 0, []⟩ d.2
  else none
set_option maxRecDepth 100000 in
set_option maxHeartbeats 4000000 in
theorem kdec1 (A : Option Addr) (c : Nat) (bs : List Int) (w : World) (hr : Reads w w.heap.size 1 A bs.length (bcs bs)) (hn : bs.length ≤ 900000) (hok : bOK bs) (s : RS) (s1 s2 s3 : RS) (pn pi sq : Int) (l : List Pr) (e1 : rGet s = ((pn, pi), s1)) (e2 : rUint s1 = (sq, s2)) (e3 : rLives s2 = (l, s3)) (hll : l.length ≤ 255) (h3l : s3.1.length ≤ s2.1.length) (hu : rU8 (bs, false) = (1, s)) :
    Calls Tryz.prog 12 #[.slice A bs.length c] w (RetDecK w (finK ⟨1, 0, 0, 0, [], [], pn, pi, sq, l⟩ s3)) := by
  have T1 := hide (newReader_s A c bs _ ((Reads.below hr (below_alloc w (.cells #[.int .i64 0, .int .i64 0, .int .u64 0, .int .i64 0, .slice none 0 0, .slice none 0 0, .int .i64 0, .int .u64 0, .int .u64 0, .slice none 0 0] 31))).more (by simp)) (by omega) hok)
  have hl0 := rU8_len (bs, false)
  have T2 : Hid (∀ g B W, Rds W g B bs false → Calls Tryz.prog 27 #[.pointer (some ⟨g, 0, none⟩)] W (RetR g B W (.int .u8 1) s)) := hide (fun g B W h => by
    have := u8R_s g B (bs, false) W h
    rw [hu] at this; exact this)
  have hrg := rU8_range (s := (bs, false)) hok
  rw [hu] at hl0 hrg
  simp only at hl0 hrg
  obtain ⟨hrg0, hrg1⟩ := hrg
  have hl1 := rGet_len s
  have hl2 := rUint_len s1
  rw [e1] at hl1
  rw [e2] at hl2
  simp only at hl1 hl2
  have TP := hide (fun g B W (h : Rds W g B s.1 s.2) => getP_s g B s W h (by omega))
  have TU := hide (fun g B W (h : Rds W g B s1.1 s1.2) => uintR_s g B s1 W h (by omega))
  have TL := hide (fun g B W (h : Rds W g B s2.1 s2.2) => lives_r g B s2 W h (by omega))
  rw [e1] at TP
  rw [e2] at TU
  rw [e3] at TL
  simp only at TP TU TL
  clear hr hok hu e1 e2 e3
  go_enter Tryz.func12, Tryz.ntmps12
  go_wp2_with fail
  with_reducible refine T1.out.mono ?_
  rintro e w1 ⟨g, rfl, hg, hR1, hb1⟩
  haveI : Stp _ w1 := ⟨hb1⟩
  haveI : Rdc w1 g w1.heap.size (bs, false) := ⟨hR1⟩
  simp only [World.size_alloc] at hg
  have hgt := hR1.top
  haveI : LtN w.heap.size g := ⟨hg⟩
  haveI : LeN w.heap.size g := ⟨by omega⟩
  haveI : LtN g w1.heap.size := ⟨hgt⟩
  haveI : LeN w.heap.size w1.heap.size := ⟨by omega⟩
  clear hR1 hb1 T1
  go_wp2_with fail
  (with_reducible refine (T2.out _ _ _ (Rdc.h (s := (bs, false)))).mono ?_)
  rintro e w2 ⟨rfl, hR, hG⟩
  haveI : StpG _ _ w2 := ⟨hG⟩
  haveI : Rdc w2 g w1.heap.size s := ⟨hR⟩
  have hz2 : w1.heap.size ≤ w2.heap.size := hG.size
  clear hR hG
  haveI : LeN w1.heap.size w2.heap.size := ⟨hz2⟩
  haveI : LtN g w2.heap.size := ⟨by omega⟩
  haveI : LtN w.heap.size w2.heap.size := ⟨by omega⟩
  haveI : LeN w.heap.size w2.heap.size := ⟨by omega⟩
  clear T2
  go_wp2_with fail
  (with_reducible refine (TP.out _ _ _ Rdc.h).mono ?_)
  rintro e w3 ⟨rfl, hR, hG⟩
  haveI : StpG _ _ w3 := ⟨hG⟩
  haveI : Rdc w3 g w1.heap.size s1 := ⟨hR⟩
  clear hR hG
  go_wp2_with fail
  (with_reducible refine (TU.out _ _ _ Rdc.h).mono ?_)
  rintro e w4 ⟨rfl, hR, hG⟩
  haveI : StpG _ _ w4 := ⟨hG⟩
  haveI : Rdc w4 g w1.heap.size s2 := ⟨hR⟩
  clear hR hG
  go_wp2_with fail
  (with_reducible refine (TL.out _ _ _ Rdc.h).mono ?_)
  rintro e w5 ⟨v5, rfl, ho, hR, hG⟩
  haveI : StpG _ _ w5 := ⟨hG⟩
  haveI : Rdc w5 g w1.heap.size s3 := ⟨hR⟩
  obtain ⟨A5, c5, rfl, _, _⟩ := own_slice ho
  have HO := hide (own_base (base' := w2.heap.size + 1) ho (BoxAt.lt (n := w2.heap.size) inferInstance))
  clear hR hG ho TP TU TL
  have T8 := hide (fun W (hW : Rds W g w1.heap.size s3.1 s3.2) => endR_s g w1.heap.size s3 W hW (by omega))
  have key : (s3.2 = true ∨ 0 < s3.1.length) ∨ (¬ (s3.2 = true ∨ 0 < s3.1.length) ∧ Pk.mayB ⟨1, 0, 0, 0, [], [], pn, pi, sq, l⟩ = false) ∨ (¬ (s3.2 = true ∨ 0 < s3.1.length) ∧ Pk.mayB ⟨1, 0, 0, 0, [], [], pn, pi, sq, l⟩ = true) := by
    by_cases h : s3.2 = true ∨ 0 < s3.1.length
    · exact .inl h
    · cases h2 : Pk.mayB ⟨1, 0, 0, 0, [], [], pn, pi, sq, l⟩
      · exact .inr (.inl ⟨h, rfl⟩)
      · exact .inr (.inr ⟨h, rfl⟩)
  have TM := hide (fun W (h : Reads W W.heap.size 4 none 0 (hcs [])) (hq : Sl W A5 l) => kmay_s 1 0 0 0 none 0 [] none 0 [] pn pi sq A5 c5 l W h hq (by simp) (by simp) (by omega))
  simp only [List.length_nil] at TM
  rcases key with hk1 | ⟨hk1, hk2⟩ | ⟨hk1, hk2⟩
  · rw [if_pos hk1] at T8
    have HF : Hid (finK ⟨1, 0, 0, 0, [], [], pn, pi, sq, l⟩ s3 = none) := hide (if_pos hk1)
    clear hk1 TM
    go_wp2_with fail
    with_reducible refine (T8.out _ Rdc.h).mono ?_
    rintro e w8 ⟨rfl, hR, hG⟩
    haveI : StpG _ _ w8 := ⟨hG⟩
    clear hR hG T8
    go_wp2
    refine bodyPost_ret (v := .tuple #[.agg #[.int .i64 0, .int .i64 0, .int .u64 0, .int .i64 0, .slice none 0 0, .slice none 0 0, .int .i64 0, .int .u64 0, .int .u64 0, .slice none 0 0], .int .i64 3]) (by simp [results, Tryz.results12, go_sem]) rfl ?_
    rw [HF.out]
    exact RetDecK.no blw
  · rw [if_neg hk1] at T8
    have HF : Hid (finK ⟨1, 0, 0, 0, [], [], pn, pi, sq, l⟩ s3 = none) := hide ((if_neg hk1).trans (if_pos hk2))
    have hk2' : mayKB 1 0 0 0 [] [] pn pi sq l = false := hk2
    rw [hk2'] at TM
    clear hk1 hk2 hk2'
    go_wp2_with fail
    with_reducible refine (T8.out _ Rdc.h).mono ?_
    rintro e w8 ⟨rfl, hR, hG⟩
    haveI : StpG _ _ w8 := ⟨hG⟩
    clear hR hG T8
    go_wp2_with fail
    (with_reducible refine (TM.out _ Reads.none_ (sl_of (own_kp HO.out))).mono ?_)
    rintro e w9 ⟨rfl, hb9⟩
    haveI : Stp _ w9 := ⟨hb9⟩
    clear hb9 TM
    go_wp2
    refine bodyPost_ret (v := .tuple #[.agg #[.int .i64 0, .int .i64 0, .int .u64 0, .int .i64 0, .slice none 0 0, .slice none 0 0, .int .i64 0, .int .u64 0, .int .u64 0, .slice none 0 0], .int .i64 3]) (by simp [results, Tryz.results12, go_sem]) rfl ?_
    rw [HF.out]
    exact RetDecK.no blw
  · rw [if_neg hk1] at T8
    have HF : Hid (finK ⟨1, 0, 0, 0, [], [], pn, pi, sq, l⟩ s3 = some ⟨1, 0, 0, 0, [], [], pn, pi, sq, l⟩) := hide ((if_neg hk1).trans (if_neg (by rw [hk2]; simp)))
    have hk2' : mayKB 1 0 0 0 [] [] pn pi sq l = true := hk2
    rw [hk2'] at TM
    clear hk1 hk2 hk2'
    go_wp2_with fail
    with_reducible refine (T8.out _ Rdc.h).mono ?_
    rintro e w8 ⟨rfl, hR, hG⟩
    haveI : StpG _ _ w8 := ⟨hG⟩
    clear hR hG T8
    go_wp2_with fail
    (with_reducible refine (TM.out _ Reads.none_ (sl_of (own_kp HO.out))).mono ?_)
    rintro e w9 ⟨rfl, hb9⟩
    haveI : Stp _ w9 := ⟨hb9⟩
    clear hb9 TM
    go_wp2
    refine bodyPost_ret (v := .tuple #[.agg #[.int .i64 1, .int .i64 0, .int .u64 0, .int .i64 0, .slice none 0 0, .slice none 0 0, .int .i64 pn, .int .u64 pi, .int .u64 sq, .slice A5 l.length c5], .int .i64 0]) (by simp [results, Tryz.results12, go_sem]) rfl ?_
    rw [HF.out]
    exact ⟨none, 0, none, 0, A5, c5, rfl, ⟨Reads.none_, Reads.none_, sl_of (own_kp HO.out), by simp, by simp, by show l.length ≤ 1000000; omega⟩, blw⟩
set_option maxRecDepth 100000 in
set_option maxHeartbeats 4000000 in
theorem kdec2 (A : Option Addr) (c : Nat) (bs : List Int) (w : World) (hr : Reads w w.heap.size 1 A bs.length (bcs bs)) (hn : bs.length ≤ 900000) (hok : bOK bs) (s : RS) (s1 s2 s3 s4 : RS) (pn pi hp : Int) (l : List Hd) (tx : List Int) (e1 : rGet s = ((pn, pi), s1)) (e2 : rU8 s1 = (hp, s2)) (e3 : rHeads false s2 = (l, s3)) (e4 : rText 320 s3 = (tx, s4)) (hll : l.length ≤ 255) (h3l : s3.1.length ≤ s2.1.length) (hh0 : 0 ≤ hp) (hh1 : hp < 256) (htl : tx.length ≤ 1000000) (h4l : s4.1.length ≤ s3.1.length) (hto : bOK tx) (hu : rU8 (bs, false) = (2, s)) :
    Calls Tryz.prog 12 #[.slice A bs.length c] w (RetDecK w (finK ⟨2, pn, pi, hp, l, tx, 0, 0, 0, []⟩ s4)) := by
  have T1 := hide (newReader_s A c bs _ ((Reads.below hr (below_alloc w (.cells #[.int .i64 0, .int .i64 0, .int .u64 0, .int .i64 0, .slice none 0 0, .slice none 0 0, .int .i64 0, .int .u64 0, .int .u64 0, .slice none 0 0] 31))).more (by simp)) (by omega) hok)
  have hl0 := rU8_len (bs, false)
  have T2 : Hid (∀ g B W, Rds W g B bs false → Calls Tryz.prog 27 #[.pointer (some ⟨g, 0, none⟩)] W (RetR g B W (.int .u8 2) s)) := hide (fun g B W h => by
    have := u8R_s g B (bs, false) W h
    rw [hu] at this; exact this)
  have hrg := rU8_range (s := (bs, false)) hok
  rw [hu] at hl0 hrg
  simp only at hl0 hrg
  obtain ⟨hrg0, hrg1⟩ := hrg
  have hl1 := rGet_len s
  have hl2 := rU8_len s1
  rw [e1] at hl1
  rw [e2] at hl2
  simp only at hl1 hl2
  have TP := hide (fun g B W (h : Rds W g B s.1 s.2) => getP_s g B s W h (by omega))
  have TU := hide (fun g B W (h : Rds W g B s1.1 s1.2) => u8R_s g B s1 W h)
  have TL := hide (fun g B W (h : Rds W g B s2.1 s2.2) => heads_r_false g B s2 W h (by omega))
  rw [e1] at TP
  rw [e2] at TU
  rw [e3] at TL
  have TX : Hid (∀ g B W, Rds W g B s3.1 s3.2 → Calls Tryz.prog 32 #[.pointer (some ⟨g, 0, none⟩), .int .i64 320] W (RetTx g B W (rText 320 s3))) := hide (fun g B W h => textR_s g B 320 s3 W h (by omega) (by omega))
  rw [e4] at TX
  unfold RetTx at TX
  have HTO := hide hto
  simp only at TP TU TL TX
  clear hr hok hu e1 e2 e3 e4 hto
  go_enter Tryz.func12, Tryz.ntmps12
  go_wp2_with fail
  with_reducible refine T1.out.mono ?_
  rintro e w1 ⟨g, rfl, hg, hR1, hb1⟩
  haveI : Stp _ w1 := ⟨hb1⟩
  haveI : Rdc w1 g w1.heap.size (bs, false) := ⟨hR1⟩
  simp only [World.size_alloc] at hg
  have hgt := hR1.top
  haveI : LtN w.heap.size g := ⟨hg⟩
  haveI : LeN w.heap.size g := ⟨by omega⟩
  haveI : LtN g w1.heap.size := ⟨hgt⟩
  haveI : LeN w.heap.size w1.heap.size := ⟨by omega⟩
  clear hR1 hb1 T1
  go_wp2_with fail
  (with_reducible refine (T2.out _ _ _ (Rdc.h (s := (bs, false)))).mono ?_)
  rintro e w2 ⟨rfl, hR, hG⟩
  haveI : StpG _ _ w2 := ⟨hG⟩
  haveI : Rdc w2 g w1.heap.size s := ⟨hR⟩
  have hz2 : w1.heap.size ≤ w2.heap.size := hG.size
  clear hR hG
  haveI : LeN w1.heap.size w2.heap.size := ⟨hz2⟩
  haveI : LtN g w2.heap.size := ⟨by omega⟩
  haveI : LtN w.heap.size w2.heap.size := ⟨by omega⟩
  haveI : LeN w.heap.size w2.heap.size := ⟨by omega⟩
  clear T2
  go_wp2_with fail
  (with_reducible refine (TP.out _ _ _ Rdc.h).mono ?_)
  rintro e w3 ⟨rfl, hR, hG⟩
  haveI : StpG _ _ w3 := ⟨hG⟩
  haveI : Rdc w3 g w1.heap.size s1 := ⟨hR⟩
  clear hR hG
  go_wp2_with fail
  (with_reducible refine (TU.out _ _ _ Rdc.h).mono ?_)
  rintro e w4 ⟨rfl, hR, hG⟩
  haveI : StpG _ _ w4 := ⟨hG⟩
  haveI : Rdc w4 g w1.heap.size s2 := ⟨hR⟩
  clear hR hG
  go_wp2_with fail
  (with_reducible refine (TL.out _ _ _ Rdc.h).mono ?_)
  rintro e w5 ⟨v5, rfl, ho, hR, hG⟩
  haveI : StpG _ _ w5 := ⟨hG⟩
  haveI : Rdc w5 g w1.heap.size s3 := ⟨hR⟩
  obtain ⟨A5, c5, rfl, _, _⟩ := own_slice ho
  have HO := hide (own_base (base' := w2.heap.size + 1) ho (BoxAt.lt (n := w2.heap.size) inferInstance))
  clear hR hG ho TP TU TL
  go_wp2_with fail
  (with_reducible refine (TX.out _ _ _ Rdc.h).mono ?_)
  rintro e w6 ⟨rfl, hR, hG⟩
  have hz6 : w2.heap.size < w6.heap.size := by
    have : w2.heap.size < w6.heap.size := Nat.lt_of_lt_of_le (BoxAt.lt (n := w2.heap.size) inferInstance) hG.size
    exact this
  haveI : StpG _ _ w6 := ⟨hG⟩
  haveI : Rdc w6 g w1.heap.size s4 := ⟨hR⟩
  haveI : LtN w2.heap.size w6.heap.size := ⟨hz6⟩
  haveI : LtN g w6.heap.size := ⟨by omega⟩
  haveI : LtN w.heap.size w6.heap.size := ⟨by omega⟩
  haveI := bytesW_blk w6 tx
  clear hR hG TX
  have T8 := hide (fun W (hW : Rds W g w1.heap.size s4.1 s4.2) => endR_s g w1.heap.size s4 W hW (by omega))
  have key : (s4.2 = true ∨ 0 < s4.1.length) ∨ (¬ (s4.2 = true ∨ 0 < s4.1.length) ∧ Pk.mayB ⟨2, pn, pi, hp, l, tx, 0, 0, 0, []⟩ = false) ∨ (¬ (s4.2 = true ∨ 0 < s4.1.length) ∧ Pk.mayB ⟨2, pn, pi, hp, l, tx, 0, 0, 0, []⟩ = true) := by
    by_cases h : s4.2 = true ∨ 0 < s4.1.length
    · exact .inl h
    · cases h2 : Pk.mayB ⟨2, pn, pi, hp, l, tx, 0, 0, 0, []⟩
      · exact .inr (.inl ⟨h, rfl⟩)
      · exact .inr (.inr ⟨h, rfl⟩)
  have TM := hide (fun W (h : Reads W W.heap.size 4 A5 l.length (hcs l)) (hq : Sl W none []) => kmay_s 2 pn pi hp A5 c5 l (some ⟨w6.heap.size, 0, none⟩) (capB w6 tx) tx 0 0 0 none 0 [] W h hq (by omega) (by omega) (by simp))
  simp only [List.length_nil] at TM
  rcases key with hk1 | ⟨hk1, hk2⟩ | ⟨hk1, hk2⟩
  · rw [if_pos hk1] at T8
    have HF : Hid (finK ⟨2, pn, pi, hp, l, tx, 0, 0, 0, []⟩ s4 = none) := hide (if_pos hk1)
    clear hk1 TM
    go_wp2_with fail
    with_reducible refine (T8.out _ Rdc.h).mono ?_
    rintro e w8 ⟨rfl, hR, hG⟩
    haveI : StpG _ _ w8 := ⟨hG⟩
    clear hR hG T8
    go_wp2
    refine bodyPost_ret (v := .tuple #[.agg #[.int .i64 0, .int .i64 0, .int .u64 0, .int .i64 0, .slice none 0 0, .slice none 0 0, .int .i64 0, .int .u64 0, .int .u64 0, .slice none 0 0], .int .i64 3]) (by simp [results, Tryz.results12, go_sem]) rfl ?_
    rw [HF.out]
    exact RetDecK.no blw
  · rw [if_neg hk1] at T8
    have HF : Hid (finK ⟨2, pn, pi, hp, l, tx, 0, 0, 0, []⟩ s4 = none) := hide ((if_neg hk1).trans (if_pos hk2))
    have hk2' : mayKB 2 pn pi hp l tx 0 0 0 [] = false := hk2
    rw [hk2'] at TM
    clear hk1 hk2 hk2'
    go_wp2_with fail
    with_reducible refine (T8.out _ Rdc.h).mono ?_
    rintro e w8 ⟨rfl, hR, hG⟩
    haveI : StpG _ _ w8 := ⟨hG⟩
    clear hR hG T8
    go_wp2_with fail
    (with_reducible refine (TM.out _ (Reads.of_own (own_kp HO.out)) (sl_nil _)).mono ?_)
    rintro e w9 ⟨rfl, hb9⟩
    haveI : Stp _ w9 := ⟨hb9⟩
    clear hb9 TM
    go_wp2
    refine bodyPost_ret (v := .tuple #[.agg #[.int .i64 0, .int .i64 0, .int .u64 0, .int .i64 0, .slice none 0 0, .slice none 0 0, .int .i64 0, .int .u64 0, .int .u64 0, .slice none 0 0], .int .i64 3]) (by simp [results, Tryz.results12, go_sem]) rfl ?_
    rw [HF.out]
    exact RetDecK.no blw
  · rw [if_neg hk1] at T8
    have HF : Hid (finK ⟨2, pn, pi, hp, l, tx, 0, 0, 0, []⟩ s4 = some ⟨2, pn, pi, hp, l, tx, 0, 0, 0, []⟩) := hide ((if_neg hk1).trans (if_neg (by rw [hk2]; simp)))
    have hk2' : mayKB 2 pn pi hp l tx 0 0 0 [] = true := hk2
    rw [hk2'] at TM
    clear hk1 hk2 hk2'
    go_wp2_with fail
    with_reducible refine (T8.out _ Rdc.h).mono ?_
    rintro e w8 ⟨rfl, hR, hG⟩
    haveI : StpG _ _ w8 := ⟨hG⟩
    clear hR hG T8
    go_wp2_with fail
    (with_reducible refine (TM.out _ (Reads.of_own (own_kp HO.out)) (sl_nil _)).mono ?_)
    rintro e w9 ⟨rfl, hb9⟩
    haveI : Stp _ w9 := ⟨hb9⟩
    clear hb9 TM
    go_wp2
    refine bodyPost_ret (v := .tuple #[.agg #[.int .i64 2, .int .i64 pn, .int .u64 pi, .int .i64 hp, .slice A5 l.length c5, .slice (some ⟨w6.heap.size, 0, none⟩) tx.length (capB w6 tx), .int .i64 0, .int .u64 0, .int .u64 0, .slice none 0 0], .int .i64 0]) (by simp [results, Tryz.results12, go_sem]) rfl ?_
    rw [HF.out]
    exact ⟨A5, c5, (some ⟨w6.heap.size, 0, none⟩), (capB w6 tx), none, 0, rfl, ⟨Reads.of_own (own_kp HO.out), bytes_read (W := _) (w := w6) (t := tx) inferInstance HTO.out, Reads.none_, by show l.length ≤ 1000000; omega, by show tx.length ≤ 1000000; omega, by simp⟩, blw⟩
set_option maxRecDepth 100000 in
set_option maxHeartbeats 4000000 in
theorem kdec3 (A : Option Addr) (c : Nat) (bs : List Int) (w : World) (hr : Reads w w.heap.size 1 A bs.length (bcs bs)) (hn : bs.length ≤ 900000) (hok : bOK bs) (s : RS) (s1 s2 s3 : RS) (pn pi hp : Int) (l : List Hd) (e1 : rGet s = ((pn, pi), s1)) (e2 : rU8 s1 = (hp, s2)) (e3 : rHeads true s2 = (l, s3)) (hll : l.length ≤ 255) (h3l : s3.1.length ≤ s2.1.length) (hh0 : 0 ≤ hp) (hh1 : hp < 256) (hu : rU8 (bs, false) = (3, s)) :
    Calls Tryz.prog 12 #[.slice A bs.length c] w (RetDecK w (finK ⟨3, pn, pi, hp, l, [], 0, 0, 0, []⟩ s3)) := by
  have T1 := hide (newReader_s A c bs _ ((Reads.below hr (below_alloc w (.cells #[.int .i64 0, .int .i64 0, .int .u64 0, .int .i64 0, .slice none 0 0, .slice none 0 0, .int .i64 0, .int .u64 0, .int .u64 0, .slice none 0 0] 31))).more (by simp)) (by omega) hok)
  have hl0 := rU8_len (bs, false)
  have T2 : Hid (∀ g B W, Rds W g B bs false → Calls Tryz.prog 27 #[.pointer (some ⟨g, 0, none⟩)] W (RetR g B W (.int .u8 3) s)) := hide (fun g B W h => by
    have := u8R_s g B (bs, false) W h
    rw [hu] at this; exact this)
  have hrg := rU8_range (s := (bs, false)) hok
  rw [hu] at hl0 hrg
  simp only at hl0 hrg
  obtain ⟨hrg0, hrg1⟩ := hrg
  have hl1 := rGet_len s
  have hl2 := rU8_len s1
  rw [e1] at hl1
  rw [e2] at hl2
  simp only at hl1 hl2
  have TP := hide (fun g B W (h : Rds W g B s.1 s.2) => getP_s g B s W h (by omega))
  have TU := hide (fun g B W (h : Rds W g B s1.1 s1.2) => u8R_s g B s1 W h)
  have TL := hide (fun g B W (h : Rds W g B s2.1 s2.2) => heads_r_true g B s2 W h (by omega))
  rw [e1] at TP
  rw [e2] at TU
  rw [e3] at TL
  simp only at TP TU TL
  clear hr hok hu e1 e2 e3
  go_enter Tryz.func12, Tryz.ntmps12
  go_wp2_with fail
  with_reducible refine T1.out.mono ?_
  rintro e w1 ⟨g, rfl, hg, hR1, hb1⟩
  haveI : Stp _ w1 := ⟨hb1⟩
  haveI : Rdc w1 g w1.heap.size (bs, false) := ⟨hR1⟩
  simp only [World.size_alloc] at hg
  have hgt := hR1.top
  haveI : LtN w.heap.size g := ⟨hg⟩
  haveI : LeN w.heap.size g := ⟨by omega⟩
  haveI : LtN g w1.heap.size := ⟨hgt⟩
  haveI : LeN w.heap.size w1.heap.size := ⟨by omega⟩
  clear hR1 hb1 T1
  go_wp2_with fail
  (with_reducible refine (T2.out _ _ _ (Rdc.h (s := (bs, false)))).mono ?_)
  rintro e w2 ⟨rfl, hR, hG⟩
  haveI : StpG _ _ w2 := ⟨hG⟩
  haveI : Rdc w2 g w1.heap.size s := ⟨hR⟩
  have hz2 : w1.heap.size ≤ w2.heap.size := hG.size
  clear hR hG
  haveI : LeN w1.heap.size w2.heap.size := ⟨hz2⟩
  haveI : LtN g w2.heap.size := ⟨by omega⟩
  haveI : LtN w.heap.size w2.heap.size := ⟨by omega⟩
  haveI : LeN w.heap.size w2.heap.size := ⟨by omega⟩
  clear T2
  go_wp2_with fail
  (with_reducible refine (TP.out _ _ _ Rdc.h).mono ?_)
  rintro e w3 ⟨rfl, hR, hG⟩
  haveI : StpG _ _ w3 := ⟨hG⟩
  haveI : Rdc w3 g w1.heap.size s1 := ⟨hR⟩
  clear hR hG
  go_wp2_with fail
  (with_reducible refine (TU.out _ _ _ Rdc.h).mono ?_)
  rintro e w4 ⟨rfl, hR, hG⟩
  haveI : StpG _ _ w4 := ⟨hG⟩
  haveI : Rdc w4 g w1.heap.size s2 := ⟨hR⟩
  clear hR hG
  go_wp2_with fail
  (with_reducible refine (TL.out _ _ _ Rdc.h).mono ?_)
  rintro e w5 ⟨v5, rfl, ho, hR, hG⟩
  haveI : StpG _ _ w5 := ⟨hG⟩
  haveI : Rdc w5 g w1.heap.size s3 := ⟨hR⟩
  obtain ⟨A5, c5, rfl, _, _⟩ := own_slice ho
  have HO := hide (own_base (base' := w2.heap.size + 1) ho (BoxAt.lt (n := w2.heap.size) inferInstance))
  clear hR hG ho TP TU TL
  have T8 := hide (fun W (hW : Rds W g w1.heap.size s3.1 s3.2) => endR_s g w1.heap.size s3 W hW (by omega))
  have key : (s3.2 = true ∨ 0 < s3.1.length) ∨ (¬ (s3.2 = true ∨ 0 < s3.1.length) ∧ Pk.mayB ⟨3, pn, pi, hp, l, [], 0, 0, 0, []⟩ = false) ∨ (¬ (s3.2 = true ∨ 0 < s3.1.length) ∧ Pk.mayB ⟨3, pn, pi, hp, l, [], 0, 0, 0, []⟩ = true) := by
    by_cases h : s3.2 = true ∨ 0 < s3.1.length
    · exact .inl h
    · cases h2 : Pk.mayB ⟨3, pn, pi, hp, l, [], 0, 0, 0, []⟩
      · exact .inr (.inl ⟨h, rfl⟩)
      · exact .inr (.inr ⟨h, rfl⟩)
  have TM := hide (fun W (h : Reads W W.heap.size 4 A5 l.length (hcs l)) (hq : Sl W none []) => kmay_s 3 pn pi hp A5 c5 l none 0 [] 0 0 0 none 0 [] W h hq (by omega) (by simp) (by simp))
  simp only [List.length_nil] at TM
  rcases key with hk1 | ⟨hk1, hk2⟩ | ⟨hk1, hk2⟩
  · rw [if_pos hk1] at T8
    have HF : Hid (finK ⟨3, pn, pi, hp, l, [], 0, 0, 0, []⟩ s3 = none) := hide (if_pos hk1)
    clear hk1 TM
    go_wp2_with fail
    with_reducible refine (T8.out _ Rdc.h).mono ?_
    rintro e w8 ⟨rfl, hR, hG⟩
    haveI : StpG _ _ w8 := ⟨hG⟩
    clear hR hG T8
    go_wp2
    refine bodyPost_ret (v := .tuple #[.agg #[.int .i64 0, .int .i64 0, .int .u64 0, .int .i64 0, .slice none 0 0, .slice none 0 0, .int .i64 0, .int .u64 0, .int .u64 0, .slice none 0 0], .int .i64 3]) (by simp [results, Tryz.results12, go_sem]) rfl ?_
    rw [HF.out]
    exact RetDecK.no blw
  · rw [if_neg hk1] at T8
    have HF : Hid (finK ⟨3, pn, pi, hp, l, [], 0, 0, 0, []⟩ s3 = none) := hide ((if_neg hk1).trans (if_pos hk2))
    have hk2' : mayKB 3 pn pi hp l [] 0 0 0 [] = false := hk2
    rw [hk2'] at TM
    clear hk1 hk2 hk2'
    go_wp2_with fail
    with_reducible refine (T8.out _ Rdc.h).mono ?_
    rintro e w8 ⟨rfl, hR, hG⟩
    haveI : StpG _ _ w8 := ⟨hG⟩
    clear hR hG T8
    go_wp2_with fail
    (with_reducible refine (TM.out _ (Reads.of_own (own_kp HO.out)) (sl_nil _)).mono ?_)
    rintro e w9 ⟨rfl, hb9⟩
    haveI : Stp _ w9 := ⟨hb9⟩
    clear hb9 TM
    go_wp2
    refine bodyPost_ret (v := .tuple #[.agg #[.int .i64 0, .int .i64 0, .int .u64 0, .int .i64 0, .slice none 0 0, .slice none 0 0, .int .i64 0, .int .u64 0, .int .u64 0, .slice none 0 0], .int .i64 3]) (by simp [results, Tryz.results12, go_sem]) rfl ?_
    rw [HF.out]
    exact RetDecK.no blw
  · rw [if_neg hk1] at T8
    have HF : Hid (finK ⟨3, pn, pi, hp, l, [], 0, 0, 0, []⟩ s3 = some ⟨3, pn, pi, hp, l, [], 0, 0, 0, []⟩) := hide ((if_neg hk1).trans (if_neg (by rw [hk2]; simp)))
    have hk2' : mayKB 3 pn pi hp l [] 0 0 0 [] = true := hk2
    rw [hk2'] at TM
    clear hk1 hk2 hk2'
    go_wp2_with fail
    with_reducible refine (T8.out _ Rdc.h).mono ?_
    rintro e w8 ⟨rfl, hR, hG⟩
    haveI : StpG _ _ w8 := ⟨hG⟩
    clear hR hG T8
    go_wp2_with fail
    (with_reducible refine (TM.out _ (Reads.of_own (own_kp HO.out)) (sl_nil _)).mono ?_)
    rintro e w9 ⟨rfl, hb9⟩
    haveI : Stp _ w9 := ⟨hb9⟩
    clear hb9 TM
    go_wp2
    refine bodyPost_ret (v := .tuple #[.agg #[.int .i64 3, .int .i64 pn, .int .u64 pi, .int .i64 hp, .slice A5 l.length c5, .slice none 0 0, .int .i64 0, .int .u64 0, .int .u64 0, .slice none 0 0], .int .i64 0]) (by simp [results, Tryz.results12, go_sem]) rfl ?_
    rw [HF.out]
    exact ⟨A5, c5, none, 0, none, 0, rfl, ⟨Reads.of_own (own_kp HO.out), Reads.none_, Reads.none_, by show l.length ≤ 1000000; omega, by simp, by simp⟩, blw⟩
end Go.Proofs.YtggmninbpnolgaaGreat

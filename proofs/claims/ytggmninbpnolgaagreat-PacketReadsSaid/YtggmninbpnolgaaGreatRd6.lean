/-
  The reference of layer 6: what bytes are read as, in plain lists: it is the program's answer.
-/
import Derived.Test.YtggmninbpnolgaaGreatPkL
import Derived.Test.YtggmninbpnolgaaGreatIn
import Derived.Test.YtggmninbpnolgaaGreatRefK7
import Derived.Test.YtggmninbpnolgaaGreatRb6
import Derived.Test.YtggmninbpnolgaaGreatOwnK
import Derived.Test.YtggmninbpnolgaaGreatTcL
namespace Go.Proofs.YtggmninbpnolgaaGreat
set_option linter.unusedSimpArgs false
set_option linter.unusedVariables false
set_option linter.unusedSectionVars false
open Go.RowKit

/-- heads are read till it fails -/
def rHq (ack : Bool) : Nat → RS → List Hd → List Hd × RS
  | 0, s, acc => (acc, s)
  | k + 1, s, acc => if s.2 = true then (acc, s) else rHq ack k (rHd ack s).2 (acc ++ [(rHd ack s).1])
theorem rHq_eq (ack : Bool) (f : Hd → List Int) (P : Hd → Prop) (hf : ∀ s : RS, bOK s.1 → (rHd ack s).2.2 = false → s.2 = false ∧ s.1 = f (rHd ack s).1 ++ (rHd ack s).2.1 ∧ P (rHd ack s).1) : ∀ (k : Nat) (s : RS) (acc : List Hd), bOK s.1 → (rHds ack k s acc).2.2 = false → rHq ack k s acc = rHds ack k s acc
  | 0, _, _, _, _ => rfl
  | k + 1, s, acc, hok, h => by
    obtain ⟨m, _, _, m3, _⟩ := rHds_inv ack f P hf (k + 1) s acc hok h
    rw [rHq, if_neg (by rw [m3]; simp)]
    rw [rHds] at h ⊢
    exact rHq_eq ack f P hf k _ _ (rHd_bk ack hok) h
theorem rHq_fin (ack : Bool) : ∀ (k : Nat) (s : RS) (acc : List Hd), (rHq ack k s acc).2.2 = false → (rHds ack k s acc).2.2 = false
  | 0, _, _, h => h
  | k + 1, s, acc, h => by
    rw [rHq] at h
    by_cases hs : s.2 = true
    · rw [if_pos hs] at h; simp only at h; rw [hs] at h; cases h
    · rw [if_neg hs] at h
      rw [rHds]
      exact rHq_fin ack k _ _ h
theorem rHq_back (ack : Bool) (f : Hd → List Int) (P : Hd → Prop) (hf : ∀ h rest, P h → rHd ack (f h ++ rest, false) = (h, (rest, false))) :
    ∀ (l acc : List Hd) (rest : List Int), (∀ h ∈ l, P h) → rHq ack l.length (l.flatMap f ++ rest, false) acc = (acc ++ l, (rest, false))
  | [], acc, rest, _ => by simp [rHq]
  | p :: l, acc, rest, h => by
    rw [List.length_cons, rHq, if_neg (by simp), List.flatMap_cons, List.append_assoc, hf p _ (h p (by simp))]
    simp only
    rw [rHq_back ack f P hf l (acc ++ [p]) rest (fun q hq => h q (by simp [hq]))]
    simp
theorem rHq_len (ack : Bool) : ∀ (k : Nat) (s : RS) (acc : List Hd), (rHq ack k s acc).1.length ≤ acc.length + k
  | 0, _, _ => by simp [rHq]
  | k + 1, s, acc => by
    rw [rHq]
    split
    · simp only; omega
    · have := rHq_len ack k (rHd ack s).2 (acc ++ [(rHd ack s).1])
      rw [List.length_append, List.length_singleton] at this; omega
theorem rTxI_back (t rest : List Int) (most : Nat) (h : t.length ≤ most) (hm : most ≤ 1000) : rTxI most (txtB t ++ rest, false) = (t, (rest, false)) := by
  unfold rTxI txtB
  rw [List.append_assoc, rUint_back _ _ (by omega) (by omega)]
  simp only [Int.toNat_natCast]
  rw [if_neg (by simp; omega)]
  simp
/-- what the reader reads, and how the reader stands then -/
def rawK (bs : List Int) : Pk × RS :=
  let a := rU8 (bs, false)
  if a.1 = 1 then
    let b := rGet a.2
    let c := rUint b.2
    let d := rGetSet 10 c.2
    (⟨1, 0, 0, 0, [], [], b.1.1, b.1.2, c.1, d.1⟩, d.2)
  else
    let b := rGet a.2
    let c := rU8 b.2
    let d := rU8 c.2
    let e := rHq (a.1 == 3) d.1.toNat d.2 []
    if a.1 = 2 then
      let f := rTxI 320 e.2
      (⟨2, b.1.1, b.1.2, c.1, e.1, f.1, 0, 0, 0, []⟩, f.2)
    else (⟨a.1, b.1.1, b.1.2, c.1, e.1, [], 0, 0, 0, []⟩, e.2)
def finR (x : Pk) (s : RS) (bs : List Int) : Option Pk := if s.2 = true then none else if x.mayB = false then none else if x.enc = bs then some x else none
def readK (bs : List Int) : Option Pk := finR (rawK bs).1 (rawK bs).2 bs
theorem rHd_inv2 (ack : Bool) (s : RS) (hok : bOK s.1) (h : (rHd ack s).2.2 = false) : s.2 = false ∧ s.1 = (if ack then haB else hdB) (rHd ack s).1 ++ (rHd ack s).2.1 ∧ HdW (rHd ack s).1 := by
  cases ack
  · exact rHd_invF s hok h
  · exact rHd_invT s hok h
theorem rHq_W {ack : Bool} {k : Nat} {s : RS} (hok : bOK s.1) (h : (rHq ack k s []).2.2 = false) : (∀ p ∈ (rHq ack k s []).1, HdW p) ∧ bOK (rHq ack k s []).2.1 := by
  have h' := rHq_fin ack k s [] h
  rw [rHq_eq ack _ HdW (rHd_inv2 ack) k s [] hok h']
  obtain ⟨m, m1, _, _, m4, m5⟩ := rHds_inv ack _ HdW (rHd_inv2 ack) k s [] hok h'
  rw [m1, List.nil_append]
  exact ⟨m5, rHds_bk ack k s [] hok⟩
theorem rawK_F {bs : List Int} (hok : bOK bs) (h : (rawK bs).2.2 = false) : PkF (rawK bs).1 := by
  have hz : wfU64 0 := ⟨by omega, by omega⟩
  unfold rawK at h ⊢
  simp only at h ⊢
  by_cases h1 : (rU8 (bs, false)).1 = 1
  · rw [if_pos h1] at h ⊢
    simp only at h ⊢
    have ok2 := rGet_bk (rU8_bk (s := (bs, false)) hok)
    have ok3 := rUint_bk ok2
    obtain ⟨_, _, _, _, d5⟩ := rGetSet_inv ok3 h
    have d1 := rGetSet_ok h
    obtain ⟨c1, c2, c3⟩ := rUint_step ok2 d1
    obtain ⟨b2, b3, b4⟩ := rGet_inv (rU8_bk (s := (bs, false)) hok) c1
    exact ⟨hz, b4, c3, by simp, bOK.nil, fun p hp => (d5 p hp).2⟩
  · rw [if_neg h1] at h ⊢
    have ok2 := rGet_bk (rU8_bk (s := (bs, false)) hok)
    have ok4 := rU8_bk (rU8_bk ok2)
    have key : (rHq ((rU8 (bs, false)).1 == 3) (rU8 (rU8 (rGet (rU8 (bs, false)).2).2).2).1.toNat (rU8 (rU8 (rGet (rU8 (bs, false)).2).2).2).2 []).2.2 = false → wfU64 (rGet (rU8 (bs, false)).2).1.2 := fun he => by
      obtain ⟨m, _, _, m3, _⟩ := rHds_inv _ _ HdW (rHd_inv2 _) _ _ _ ok4 (rHq_fin _ _ _ _ he)
      obtain ⟨c1, _⟩ := rU8_step m3
      obtain ⟨b1, _⟩ := rU8_step c1
      exact (rGet_inv (rU8_bk (s := (bs, false)) hok) b1).2.2
    by_cases h2 : (rU8 (bs, false)).1 = 2
    · rw [if_pos h2] at h ⊢
      simp only at h ⊢
      have he : (rHq ((rU8 (bs, false)).1 == 3) (rU8 (rU8 (rGet (rU8 (bs, false)).2).2).2).1.toNat (rU8 (rU8 (rGet (rU8 (bs, false)).2).2).2).2 []).2.2 = false := by
        unfold rTxI at h
        split at h
        · cases h
        · rename_i hn
          rw [not_or] at hn
          exact rUint_ok (by simpa using hn.1)
      obtain ⟨w1, w2⟩ := rHq_W ok4 he
      refine ⟨key he, hz, hz, w1, ?_, by simp⟩
      unfold rTxI
      split
      · exact bOK.nil
      · exact fun b hb => rUint_bk w2 b (List.mem_of_mem_take hb)
    · rw [if_neg h2] at h ⊢
      simp only at h ⊢
      obtain ⟨w1, _⟩ := rHq_W ok4 h
      exact ⟨key h, hz, hz, w1, bOK.nil, by simp⟩
theorem raw_back (x : Pk) (hm : x.mayB = true) (hf : PkF x) : rawK x.enc = (x, ([], false)) := by
  obtain ⟨k, n, i, hp, hs, bs, an, ai, sq, ps⟩ := x
  obtain ⟨f1, f2, f3, f4, f5, f6⟩ := hf
  simp only at f1 f2 f3 f4 f5 f6
  rcases may_kind hm with hk | hk | hk <;> simp only at hk <;> subst hk
  · obtain ⟨e1, e2, e3, e4, e5, ha⟩ := may1 hm rfl
    simp only at e1 e2 e3 e4 e5 ha
    subst e1 e2 e3 e4 e5
    obtain ⟨a1, a2, a3, a4⟩ := adv_facts ha
    have hset : setB ps = true := by unfold advB at ha; simp only [Bool.and_eq_true] at ha; exact ha.2.2.2.1
    rw [show Pk.enc ⟨1, 0, 0, 0, [], [], an, ai, sq, ps⟩ = 1 :: (procB (an, ai) ++ (uintB sq ++ ((ps.length : Int) % 256 :: (procsB ps ++ [])))) by
      rw [show (ps.length : Int) % 256 = ps.length by omega]; simp [Pk.enc, advE, lsB, procsB]]
    unfold rawK
    simp only [kU8_cons]
    rw [if_pos trivial]
    rw [rGet_back (an, ai) _ (serv_may a1) f2.2]
    simp only
    rw [rUint_back sq _ f3.1 f3.2]
    simp only
    rw [rGetSet_back ps [] 10 (by omega) (by omega) hset (fun p hp => ⟨serv_may (a4 p hp), (f6 p hp).2⟩)]
  · obtain ⟨hsn, hb1, hb2, hd⟩ := may2 hm rfl
    obtain ⟨s1, s2, s3, s4, s5, s6, s7, s8, s9⟩ := sent_facts hsn
    simp only at s1 s2 s3 s4 s5 s6 s7 s8 s9 hb1 hb2 hd
    subst s5 s6 s7 s8
    rw [show Pk.enc ⟨2, n, i, hp, hs, bs, 0, 0, 0, []⟩ = 2 :: (procB (n, i) ++ (hp :: ((hs.length : Int) :: (hs.flatMap hdB ++ (txtB bs ++ []))))) by simp [Pk.enc, datE, topB, lsB]]
    unfold rawK
    simp only [kU8_cons]
    rw [if_neg (by omega), rGet_back (n, i) _ (life_may s1) f1.2]
    simp only [kU8_cons, Int.toNat_natCast]
    rw [show ((2 : Int) == 3) = false from rfl, rHq_back false hdB (fun h => h.i = 0 ∧ wfU64 h.c ∧ wfU64 h.s) hdB_back hs [] _ (fun h hh => by
      have := List.all_eq_true.1 hd h hh
      unfold dataH at this
      simp only [Bool.and_eq_true, Bool.not_eq_true', bne_eq_false_iff_eq] at this
      exact ⟨this.2, (f4 h hh).1, (f4 h hh).2.1⟩), if_pos trivial]
    simp only
    rw [rTxI_back bs [] 320 hb2 (by omega)]
    simp
  · obtain ⟨hsn, hl, hb⟩ := may3 hm rfl
    obtain ⟨s1, s2, s3, s4, s5, s6, s7, s8, s9⟩ := sent_facts hsn
    simp only at s1 s2 s3 s4 s5 s6 s7 s8 s9 hl hb
    subst s5 s6 s7 s8 hb
    rw [show Pk.enc ⟨3, n, i, hp, hs, [], 0, 0, 0, []⟩ = 3 :: (procB (n, i) ++ (hp :: ((hs.length : Int) :: (hs.flatMap haB ++ [])))) by simp [Pk.enc, ackE, topB, lsB]]
    have h31 : ¬ (3 : Int) = 1 := by decide
    have h32 : ¬ (3 : Int) = 2 := by decide
    unfold rawK
    simp only [kU8_cons, h31, h32, if_false]
    rw [rGet_back (n, i) _ (life_may s1) f1.2]
    simp only [kU8_cons, Int.toNat_natCast]
    rw [show ((3 : Int) == 3) = true from rfl, rHq_back true haB (fun h => wfU64 h.c ∧ wfU64 h.s ∧ wfU64 h.i) haB_back hs [] _ (fun h hh => f4 h hh)]
    simp
theorem readK_eq {bs : List Int} (hok : bOK bs) : readK bs = decK bs := by
  cases hd : decK bs with
  | none =>
    unfold readK finR
    by_cases h1 : (rawK bs).2.2 = true
    · rw [if_pos h1]
    · rw [if_neg h1]
      by_cases h2 : (rawK bs).1.mayB = false
      · rw [if_pos h2]
      · rw [if_neg h2]
        by_cases h3 : (rawK bs).1.enc = bs
        · have := decK_back _ (by simpa using h2) (rawK_F hok (by simpa using h1))
          rw [h3, hd] at this
          cases this
        · rw [if_neg h3]
  | some y =>
    obtain ⟨y1, y2, y3⟩ := decK_inv hok hd
    have := raw_back y y1 y3
    rw [y2] at this
    unfold readK finR
    rw [this]
    simp only
    rw [if_neg (by simp), if_neg (by rw [y1]; simp), if_pos y2]
end Go.Proofs.YtggmninbpnolgaaGreat

namespace Go.Proofs.YtggmninbpnolgaaGreat
set_option linter.unusedSimpArgs false
set_option linter.unusedVariables false
set_option linter.unusedSectionVars false
open Go.RowKit

/-- a packet in new memory, and whether it is one -/
def RetKp (w : World) (x : Pk) (ok : Bool) (e : Ending) (w' : World) : Prop := ∃ HA hcp BA bcp PA pcp, e = .returned (.tuple #[x.at HA hcp BA bcp PA pcp, .bool ok]) ∧ PkIn w' x HA BA PA ∧ Below w.heap.size w w'
def RetKd (w : World) : Option Pk → Ending → World → Prop
  | none => RetKp w pk0 false
  | some x => RetKp w x true
theorem RetKd.no {w w' : World} (hb : Below w.heap.size w w') : RetKd w none (.returned (.tuple #[PkV 0 0 0 0 none 0 0 none 0 0 0 0 0 none 0 0, .bool false])) w' := ⟨none, 0, none, 0, none, 0, rfl, pk0_in w', hb⟩
theorem PkIn.adv {W : World} {base c : Nat} {A : Option Addr} {an ai sq : Int} {l : List Pr} (h : W.ownsRow base 24 2 (.slice A l.length c) l.length (pcs l)) (hl : l.length ≤ 10) : PkIn W ⟨1, 0, 0, 0, [], [], an, ai, sq, l⟩ none none A := ⟨Reads.none_, Reads.none_, Reads.of_own h, by simp, by simp, by show l.length ≤ 1000000; omega⟩
theorem PkIn.snd {W : World} {base c : Nat} {A B : Option Addr} {k n i hp : Int} {L : List Hd} {t : List Int} (h : W.ownsRow base 46 4 (.slice A L.length c) L.length (hcs L)) (hb : Reads W W.heap.size 1 B t.length (bcs t)) (hl : L.length ≤ 255) (ht : t.length ≤ 1000000) : PkIn W ⟨k, n, i, hp, L, t, 0, 0, 0, []⟩ A B none := ⟨Reads.of_own h, hb, Reads.none_, by show L.length ≤ 1000000; omega, ht, by simp⟩
instance (priority := low) RdY.ofSrc (w W : World) (A : Option Addr) (n : Nat) (bs : List Int) [s : Src w A n 1 (bcs bs)] [b : Blw w W] : RdY W A n bs := ⟨Go.Proofs.YtggmninbpnolgaaGreat.src⟩
set_option maxRecDepth 100000 in
set_option maxHeartbeats 4000000 in
theorem rread1 (A : Option Addr) (c : Nat) (bs : List Int) (w : World) (hr : Reads w w.heap.size 1 A bs.length (bcs bs)) (hn : bs.length ≤ 900000) (hok : bOK bs) (s s1 s2 s3 : RS) (an ai sq : Int) (l : List Pr) (hu : rU8 (bs, false) = (1, s)) (e1 : rGet s = ((an, ai), s1)) (e2 : rUint s1 = (sq, s2)) (e3 : rGetSet 10 s2 = (l, s3)) (hll : l.length ≤ 10) (hF : s3.2 = false → PkF ⟨1, 0, 0, 0, [], [], an, ai, sq, l⟩) :
    Calls Tryz.prog 13 #[.slice A bs.length c] w (RetKd w (finR ⟨1, 0, 0, 0, [], [], an, ai, sq, l⟩ s3 bs)) := by
  have HFX := hide hF
  obtain ⟨sx, hsx⟩ : ∃ sx, sx = s3 := ⟨_, rfl⟩
  rw [← hsx] at HFX e3 ⊢
  clear hsx hF
  have TP := hide (fun (g : Nat) W (h : RI W g (g + 1) s) => procI_s _ _ s W h)
  rw [e1] at TP
  have TU := hide (fun (g : Nat) W (h : RI W g (g + 1) s1) => uintI_s _ _ s1 W h)
  rw [e2] at TU
  have TS : Hid (∀ (g : Nat) W, RI W g (g + 1) s2 → Calls Tryz.prog 37 #[.pointer (some ⟨g, 0, none⟩), .int .i64 10] W (RetJP g (g + 1) W (rGetSet 10 s2).1 (rGetSet 10 s2).2)) := hide (fun g W h => procsI_s _ _ 10 s2 W h (by omega))
  rw [e3] at TS
  simp only at TP TU TS
  clear e1 e2 e3
  haveI : Src w A bs.length 1 (bcs bs) := ⟨hr⟩
  have hun : ∀ b, (some undef = some (Value.bool b)) = False := fun b => by simp [undef]
  have HOKB := hide hok
  clear hr
  go_enter Tryz.func13, Tryz.ntmps13
  go_wp2_with (at_builtin; refine wpList_append_w Tryz.okB rfl (.tmp 9) (.tmp 10) rfl (w.heap.size + 1) (.slice (some ⟨w.heap.size + 1, 0, none⟩) 0 0) 0 [] bs.length (bcs bs) ?_ ?_ ?_ ?_ ?_ ?_ ?_ ?_; go_must ((focus (first | rfl | (simp [Act.eval, Act.put]; done))); (focus (exact own_emI _ (w.heap.size + 1) (by simp))); (focus (refine ⟨_, _, rfl, ?_⟩; exact src)); (focus (exact bcs_one _)); (focus (unfold maxLen; omega)); (focus omega); (focus (first | omega | (simp; done) | (simp; omega) | exact BoxAt.lt (n := w.heap.size) inferInstance)); intro v1 w1 ho1 hg1; rw [Nat.zero_add, List.nil_append] at ho1; haveI : StpB (w.heap.size + 1) _ w1 := ⟨grown_belowT hg1 (by simp) (fun k hk => by have e : w.heap.size + 1 = k := Option.some.inj hk; omega)⟩; obtain ⟨A1, c1, rfl, hca, hcb⟩ := own_slice ho1; have O1 := hide ho1; clear ho1 hg1))
  have z1 : w.heap.size < w1.heap.size := BoxAt.lt (n := w.heap.size) inferInstance
  haveI : LtN w.heap.size w1.heap.size := ⟨z1⟩
  haveI : LeN w.heap.size w1.heap.size := ⟨by omega⟩
  have hR0 : RI (w1.alloc (.cells #[.slice A1 bs.length c1, .bool false] 73)) w1.heap.size (w1.heap.size + 1) (bs, false) := by
    have pg := boxTop w1 #[.slice A1 bs.length c1, .bool false] 73
    refine ⟨bs, A1, c1, ⟨pg.eq, fun hl => ?_, hca, by unfold maxLen at hcb; omega, HOKB.out, by omega, by simp⟩, fun _ => rfl, by omega⟩
    obtain ⟨b, off, e, h1, h2⟩ := (Reads.of_own O1.out).2 hl
    exact ⟨b, off, e, by omega, by omega, fun j u hu => ((below_alloc w1 _).cell (p := ⟨b, off + j, none⟩) h1).trans (h2 j u hu)⟩
  have T0 := hide (u8I_s _ _ _ _ hR0)
  rw [hu] at T0
  simp only at T0
  clear hR0 O1 hca hcb
  (with_reducible refine T0.out.mono ?_)
  rintro e w2 ⟨rfl, hR2, hG2⟩
  haveI : StpG _ _ w2 := ⟨hG2⟩
  haveI : Rdg w2 w1.heap.size (w1.heap.size + 1) s := ⟨hR2⟩
  have hz2 := hR2.le
  haveI : LeN (w1.heap.size + 1) w2.heap.size := ⟨hz2⟩
  haveI : LtN w1.heap.size w2.heap.size := ⟨hz2⟩
  haveI : LtN w.heap.size w2.heap.size := ⟨by omega⟩
  haveI : LeN w.heap.size w2.heap.size := ⟨by omega⟩
  clear hR2 hG2 T0
  go_wp2_with fail
  (with_reducible refine (TP.out _ _ Rdg.h).mono ?_)
  rintro e w3 ⟨rfl, hR, hG⟩
  haveI : StpG _ _ w3 := ⟨hG⟩
  haveI : Rdg w3 w1.heap.size (w1.heap.size + 1) s1 := ⟨hR⟩
  clear hR hG TP
  go_wp2_with fail
  (with_reducible refine (TU.out _ _ Rdg.h).mono ?_)
  rintro e w4 ⟨rfl, hR, hG⟩
  haveI : StpG _ _ w4 := ⟨hG⟩
  haveI : Rdg w4 w1.heap.size (w1.heap.size + 1) s2 := ⟨hR⟩
  clear hR hG TU
  go_wp2_with fail
  (with_reducible refine (TS.out _ _ Rdg.h).mono ?_)
  rintro e w5 ⟨v5, rfl, ho5, hR, hG⟩
  haveI : StpG _ _ w5 := ⟨hG⟩
  haveI : Rdg w5 w1.heap.size (w1.heap.size + 1) sx := ⟨hR⟩
  obtain ⟨A5, c5, rfl, _, _⟩ := own_slice ho5
  have HO5 := hide (own_base (base' := w2.heap.size + 1) ho5 (BoxAt.lt (n := w2.heap.size) inferInstance))
  clear hR hG ho5 TS
  obtain ⟨lx, bad⟩ := sx
  obtain ⟨vB, kB⟩ := RI.box (Rdg.h (W := w5) (g := w1.heap.size) (s := (lx, bad)))
  simp only at kB
  haveI := kB
  cases bad
  · have FX := HFX.out rfl
    have TM := hide (fun W HA hcp BA bcp PA pcp (h : PkIn W ⟨1, 0, 0, 0, [], [], an, ai, sq, l⟩ HA BA PA) => rmay_s ⟨1, 0, 0, 0, [], [], an, ai, sq, l⟩ HA hcp BA bcp PA pcp W h FX (by simp <;> omega))
    cases hm : Pk.mayB ⟨1, 0, 0, 0, [], [], an, ai, sq, l⟩
    · have HF : Hid (finR ⟨1, 0, 0, 0, [], [], an, ai, sq, l⟩ (lx, false) bs = none) := hide ((if_neg (by simp)).trans (if_pos hm))
      rw [hm] at TM
      simp only [Pk.at, List.length_nil] at TM
      clear hm FX
      go_wp2_with fail
      (refine wp_region_gw (by kernel_rfl) (by kernel_rfl) ?_; (repeat (go_big_quiet_step ((first | (go_at_call 9; with_reducible exact calls_gw (TM.out _ none 0 none 0 A5 c5 (PkIn.adv (own_kp HO5.out) hll))) | fail)))); refine wpQuiet_nil ?_; intro _ hw'; obtain ⟨⟨dq, osq⟩, hw''⟩ := hw'; subst hw'')
      all_goals
        go_wp2
        refine bodyPost_ret (v := .tuple #[.agg #[.int .i64 0, .int .i64 0, .int .u64 0, .int .i64 0, .slice none 0 0, .slice none 0 0, .int .i64 0, .int .u64 0, .int .u64 0, .slice none 0 0], .bool false]) (by simp [results, Tryz.results13, go_sem]) rfl ?_
        rw [HF.out]
        exact RetKd.no blw
    · have TB := hide (fun W HA hcp BA bcp PA pcp (h : PkIn W ⟨1, 0, 0, 0, [], [], an, ai, sq, l⟩ HA BA PA) => refKBytes_s ⟨1, 0, 0, 0, [], [], an, ai, sq, l⟩ HA hcp BA bcp PA pcp W h FX hm)
      rw [hm] at TM
      have hfin : finR ⟨1, 0, 0, 0, [], [], an, ai, sq, l⟩ (lx, false) bs = if Pk.enc ⟨1, 0, 0, 0, [], [], an, ai, sq, l⟩ = bs then some ⟨1, 0, 0, 0, [], [], an, ai, sq, l⟩ else none := (if_neg (by simp)).trans (if_neg (by rw [hm]; simp))
      have hbk := Pk.enc_bOK FX hm
      obtain ⟨en, hen⟩ : ∃ en, en = Pk.enc ⟨1, 0, 0, 0, [], [], an, ai, sq, l⟩ := ⟨_, rfl⟩
      rw [← hen] at TB hfin hbk
      simp only [Pk.at, List.length_nil] at TM TB
      clear hm FX hen
      by_cases he : en = bs
      · have HF := hide (hfin.trans (if_pos he))
        subst he
        clear hfin
        go_wp2_with fail
        go_region_held (fun w' => w'.cell? ⟨w1.heap.size, 1, none⟩ = some (.bool false) ∧ w'.cell? ⟨w2.heap.size, 0, none⟩ = some (.int .i64 1) ∧ w'.cell? ⟨w2.heap.size, 1, none⟩ = some (.int .i64 0) ∧ w'.cell? ⟨w2.heap.size, 2, none⟩ = some (.int .u64 0) ∧ w'.cell? ⟨w2.heap.size, 3, none⟩ = some (.int .i64 0) ∧ w'.cell? ⟨w2.heap.size, 4, none⟩ = some (.slice none 0 0) ∧ w'.cell? ⟨w2.heap.size, 5, none⟩ = some (.slice none 0 0) ∧ w'.cell? ⟨w2.heap.size, 6, none⟩ = some (.int .i64 an) ∧ w'.cell? ⟨w2.heap.size, 7, none⟩ = some (.int .u64 ai) ∧ w'.cell? ⟨w2.heap.size, 8, none⟩ = some (.int .u64 sq) ∧ w'.cell? ⟨w2.heap.size, 9, none⟩ = some (.slice A5 l.length c5)) ((refine ⟨?_, ?_, ?_, ?_, ?_, ?_, ?_, ?_, ?_, ?_, ?_⟩ <;> (rw [cell?_box]; rfl)))
          (first
            | (go_at_call 9; (with_reducible refine (TM.out _ none 0 none 0 A5 c5 (PkIn.adv (own_kp HO5.out) hll)).mono ?_); rintro e w17 ⟨rfl, hb17⟩; haveI : Stp _ w17 := ⟨hb17⟩)
            | (go_at_call 10; (with_reducible refine (TB.out _ none 0 none 0 A5 c5 (PkIn.adv (own_kp HO5.out) hll)).mono ?_); rintro e w18 ⟨v18, rfl, ho18, hb18⟩; haveI : Stp _ w18 := ⟨hb18⟩; obtain ⟨A18, c18, rfl, _, _⟩ := own_slice ho18; haveI : RdY w18 A18 en.length en := ⟨Reads.of_own ho18⟩)
            | fail)
        all_goals
          go_wp2
          refine bodyPost_ret (v := .tuple #[.agg #[.int .i64 1, .int .i64 0, .int .u64 0, .int .i64 0, .slice none 0 0, .slice none 0 0, .int .i64 an, .int .u64 ai, .int .u64 sq, .slice A5 l.length c5], .bool true]) (by simp [results, Tryz.results13, go_sem]) rfl ?_
          rw [HF.out]
          exact ⟨none, 0, none, 0, A5, c5, rfl, (PkIn.adv (own_kp HO5.out) hll), blw⟩
      · have HF := hide (hfin.trans (if_neg he))
        have hne : ((strOfNums en).toList == (strOfNums bs).toList) = false := by rw [str_eq hbk HOKB.out, decide_eq_false he]
        clear hfin he
        go_wp2_with fail
        go_region_held (fun w' => w'.cell? ⟨w1.heap.size, 1, none⟩ = some (.bool false) ∧ w'.cell? ⟨w2.heap.size, 0, none⟩ = some (.int .i64 1) ∧ w'.cell? ⟨w2.heap.size, 1, none⟩ = some (.int .i64 0) ∧ w'.cell? ⟨w2.heap.size, 2, none⟩ = some (.int .u64 0) ∧ w'.cell? ⟨w2.heap.size, 3, none⟩ = some (.int .i64 0) ∧ w'.cell? ⟨w2.heap.size, 4, none⟩ = some (.slice none 0 0) ∧ w'.cell? ⟨w2.heap.size, 5, none⟩ = some (.slice none 0 0) ∧ w'.cell? ⟨w2.heap.size, 6, none⟩ = some (.int .i64 an) ∧ w'.cell? ⟨w2.heap.size, 7, none⟩ = some (.int .u64 ai) ∧ w'.cell? ⟨w2.heap.size, 8, none⟩ = some (.int .u64 sq) ∧ w'.cell? ⟨w2.heap.size, 9, none⟩ = some (.slice A5 l.length c5)) ((refine ⟨?_, ?_, ?_, ?_, ?_, ?_, ?_, ?_, ?_, ?_, ?_⟩ <;> (rw [cell?_box]; rfl)))
          (first
            | (go_at_call 9; (with_reducible refine (TM.out _ none 0 none 0 A5 c5 (PkIn.adv (own_kp HO5.out) hll)).mono ?_); rintro e w17 ⟨rfl, hb17⟩; haveI : Stp _ w17 := ⟨hb17⟩)
            | (go_at_call 10; (with_reducible refine (TB.out _ none 0 none 0 A5 c5 (PkIn.adv (own_kp HO5.out) hll)).mono ?_); rintro e w18 ⟨v18, rfl, ho18, hb18⟩; haveI : Stp _ w18 := ⟨hb18⟩; obtain ⟨A18, c18, rfl, _, _⟩ := own_slice ho18; haveI : RdY w18 A18 en.length en := ⟨Reads.of_own ho18⟩)
            | fail)
        all_goals
          go_wp2
          refine bodyPost_ret (v := .tuple #[.agg #[.int .i64 0, .int .i64 0, .int .u64 0, .int .i64 0, .slice none 0 0, .slice none 0 0, .int .i64 0, .int .u64 0, .int .u64 0, .slice none 0 0], .bool false]) (by simp [results, Tryz.results13, go_sem]) rfl ?_
          rw [HF.out]
          exact RetKd.no blw
  · have HF : Hid (finR ⟨1, 0, 0, 0, [], [], an, ai, sq, l⟩ (lx, true) bs = none) := hide (if_pos rfl)
    go_wp2_with fail
    (refine wp_region_gw (by kernel_rfl) (by kernel_rfl) ?_; (repeat (go_big_quiet_step ((fail)))); refine wpQuiet_nil ?_; intro _ hw'; obtain ⟨⟨dq, osq⟩, hw''⟩ := hw'; subst hw'')
    all_goals
      go_wp2
      refine bodyPost_ret (v := .tuple #[.agg #[.int .i64 0, .int .i64 0, .int .u64 0, .int .i64 0, .slice none 0 0, .slice none 0 0, .int .i64 0, .int .u64 0, .int .u64 0, .slice none 0 0], .bool false]) (by simp [results, Tryz.results13, go_sem]) rfl ?_
      rw [HF.out]
      exact RetKd.no blw
end Go.Proofs.YtggmninbpnolgaaGreat

/-
  Layer 18: contract: proposals.
-/
import Derived.Test.YtkglclekieckoaaGreatRu6
import Derived.Test.YtkglclekieckoaaGreatAgR
import Derived.ScopeJumps
import Derived.WalkMore
namespace Go.Proofs.YtkglclekieckoaaGreat
set_option linter.unusedSimpArgs false
set_option linter.unusedVariables false
set_option linter.unusedSectionVars false
open Go.RowKit

theorem propsG_snoc (L : List Pp) (s : Pr) : ∀ (ss : List Pr) (l : List Pp), propsG L ss = some l → ∀ p, L.find? (fun q => decide (q.sv = s)) = some p → propsG L (ss ++ [s]) = some (l ++ [p]) := by
  intro ss
  induction ss with
  | nil =>
    intro l h p hp
    simp [propsG] at h
    subst h
    simp [propsG, hp]
  | cons x ss ih =>
    intro l h p hp
    unfold propsG at h
    cases hf : L.find? (fun q => decide (q.sv = x)) with
    | none => rw [hf] at h; cases h
    | some q =>
      rw [hf] at h
      simp only at h
      cases hg : propsG L ss with
      | none => rw [hg] at h; cases h
      | some m =>
        rw [hg] at h
        simp only [Option.some.injEq] at h
        subst h
        rw [List.cons_append, propsG, hf]
        simp only
        rw [ih m hg p hp]
        rfl
theorem propsG_no (L : List Pp) (s : Pr) (h : L.find? (fun q => decide (q.sv = s)) = none) : ∀ ss : List Pr, s ∈ ss → propsG L ss = none := by
  intro ss
  induction ss with
  | nil => intro hs; cases hs
  | cons x ss ih =>
    intro hs
    rw [propsG]
    rcases List.mem_cons.1 hs with rfl | hs
    · rw [h]
    · rw [ih hs]
      cases L.find? (fun q => decide (q.sv = x)) <;> rfl
def svT (s : Pr) (x : Pp) : Bool := eqP x.n x.i s.1 s.2
theorem svT_eq (s : Pr) (x : Pp) : svT s x = decide (x.sv = s) := by
  unfold svT eqP Pp.sv
  rw [decide_eq_decide]
  exact ⟨fun ⟨a, b⟩ => Prod.ext a b, fun e => ⟨congrArg Prod.fst e, congrArg Prod.snd e⟩⟩
theorem idxF_find {L : List Pp} {s : Pr} {p : Pp} (h : L.find? (fun q => decide (q.sv = s)) = some p) : ∃ k : Nat, L[k]? = some p ∧ idxF (svT s) L = (k : Int) := by
  rw [List.find?_eq_some_iff_getElem] at h
  obtain ⟨h1, k, hk, h2, h3⟩ := h
  refine ⟨k, by rw [List.getElem?_eq_getElem hk, h2], idxF_at (by rw [List.getElem?_eq_getElem hk, h2]) (by rw [svT_eq]; exact h1) (fun q hq => ?_)⟩
  obtain ⟨j, hj, rfl⟩ := List.mem_take_iff_getElem.1 hq
  have := h3 j (by omega)
  rw [svT_eq]
  simpa using this
theorem idxF_none {L : List Pp} {s : Pr} (h : L.find? (fun q => decide (q.sv = s)) = none) : idxF (svT s) L = -1 := idxF_no fun q hq => by
  rw [svT_eq]
  have := List.find?_eq_none.1 h q hq
  simpa using this
def RetPs (w : World) (o : Option (List Pp)) (e : Ending) (w' : World) : Prop :=
  match o with
  | none => e = .returned (.tuple #[.slice none 0 0, .bool false]) ∧ Below w.heap.size w w'
  | some l => ∃ A c, e = .returned (.tuple #[.slice A l.length c, .bool (agreeB l)]) ∧ Reads w' w'.heap.size 6 A l.length (pps l) ∧ NewA w.heap.size A ∧ Below w.heap.size w w'
variable [Avoid]
set_option maxRecDepth 100000 in
set_option maxHeartbeats 8000000 in
theorem proposals_s (g : Nat) (C : List Nat) (a : Ag) (t : Tu) (w : World) (h : MK w C g a t) (hl : a.gt.length ≤ 15) (hs : a.ss.length ≤ 1000) :
    Calls Tryz.prog 74 #[.pointer (some ⟨g, 0, none⟩)] w (RetPs w (propsL a)) := by
  haveI := h.bx
  haveI : Src w a.SA a.ss.length 2 (pcs a.ss) := ⟨h.ao.s.1⟩
  haveI : Src w a.GA a.gt.length 6 (pps a.gt) := ⟨Reads.of_own h.go⟩
  have HP := hide (fun p hp => (h.ao.p p hp).ok)
  have z := h.bx.lt
  haveI : LtN g w.heap.size := ⟨z⟩
  have TX := hide (fun (s : Pr) (m : Nat) W (h : Reads W W.heap.size 6 a.GA a.gt.length (pps a.gt)) (hb : BoxAt W m #[.int .i64 s.1, .int .u64 s.2] 25) =>
    indexF_s 102 #[.pointer (some ⟨m, 0, none⟩)] (svT s) (fun W => BoxAt W m #[.int .i64 s.1, .int .u64 s.2] 25) a.GA a.gc a.gt W h (by omega) hb
      (fun X Y hX hB => ⟨by rw [hB.block m hX.lt]; exact hX.eq⟩)
      (fun x Y hY => by have := props1_s x s m Y hY; simpa [svT] using this)
      (enters_of Tryz.func102 (by kernel_rfl) rfl))
  clear h
  go_enter Tryz.func74, Tryz.ntmps74
  go_wp2_with fail
  go_loopw [4, 14] (fun s4 s14 wr => ∃ (m : Nat) (A : Option Addr) (c : Nat) (l : List Pp), s4 = .slice A l.length c ∧ s14 = .int .i64 m ∧ m ≤ a.ss.length ∧ l.length = m ∧ propsG a.gt (a.ss.take m) = some l ∧ wr.ownsRow w.heap.size 41 6 (.slice A l.length c) l.length (pps l) ∧ Below w.heap.size w wr) (fun _ s14 _ => a.ss.length - (intOf s14).toNat)
  case atStart => exact ⟨0, none, 0, [], rfl, rfl, Nat.zero_le _, rfl, rfl, World.ownsRow_nil _ _ _ _, blw⟩
  case round =>
    obtain ⟨m, A, c, l, rfl, rfl, hm, hlm, hpl, hown, hB⟩ := hrel
    haveI : Stp w wr := ⟨hB⟩
    have zr := hB.size
    have HO := hide hown
    have HPL := hide hpl
    have HLM := hide hlm
    have hlk : l.length ≤ 1000 := by omega
    clear hown hpl hB hlm
    by_cases hlt : m < a.ss.length
    · obtain ⟨b, off, s, hbA, hb, hsk, g0, g1⟩ := (src (w := w) (W := wr) (A := a.SA) (n := a.ss.length) (k := 2) (xs := pcs a.ss)).at2 hlt
      haveI : InW b wr := ⟨hb⟩
      have HSK := hide hsk
      have i0 : (0 : Int) ≤ (m : Int) := by omega
      have i1 : (m : Int) < (a.ss.length : Int) := by omega
      clear hsk
      go_wp2_with fail
      clear hbA g0 g1
      refine (TX.out s _ _ src inferInstance).mono ?_
      rintro e w2 ⟨rfl, hb2⟩
      haveI : Stp _ w2 := ⟨hb2⟩
      clear hb2
      cases hf : a.gt.find? (fun q => decide (q.sv = s)) with
      | none =>
        have hix := idxF_none hf
        have HN := hide (show propsL a = none from propsG_no a.gt s hf a.ss (List.mem_of_getElem? HSK.out))
        rw [hix]
        clear hix hf
        go_wp2
        go_ret2
        rw [HN.out]
        exact ⟨rfl, blw⟩
      | some p =>
        obtain ⟨k, hk, hix⟩ := idxF_find hf
        have hkl := (List.getElem?_eq_some_iff.1 hk).1
        have HSN := hide (show propsG a.gt (a.ss.take (m + 1)) = some (l ++ [p]) by rw [take_succ_of HSK.out]; exact propsG_snoc _ _ _ _ HPL.out _ hf)
        obtain ⟨b2, off2, p2, hbG, hb2, hp2, k0, k1, k2, k3, k4, k5⟩ := (src (w := w) (W := w2) (A := a.GA) (n := a.gt.length) (k := 6) (xs := pps a.gt)).at6 hkl
        obtain rfl : p2 = p := by rw [hk] at hp2; injection hp2 with e; exact e.symm
        haveI : InW b2 w2 := ⟨hb2⟩
        have j0 : (0 : Int) ≤ (k : Int) := by omega
        have j1 : (k : Int) < (a.gt.length : Int) := by omega
        have j2 : decide ((k : Int) < 0) = false := decide_eq_false (by omega)
        rw [hix]
        clear hix hf hk hp2
        go_wp2_with (at_builtin; refine wpList_append_x Tryz.okPq rfl (.tmp 27) (.tmp 36) rfl w.heap.size (.slice A l.length c) l.length (pps l) 1 (pps [p2]) ?_ ?_ ?_ ?_ ?_ ?_ ?_ ?_; go_must ((focus (first | rfl | (simp [Act.eval, Act.put]; done))); (focus (exact own_tc HO.out)); (focus (refine ⟨_, _, rfl, ?_⟩; exact reads_pq1x _ _ p2)); (focus (exact pps_one _)); (focus (unfold maxLen; omega)); (focus omega); (focus (first | omega | (simp; done) | (simp; omega) | exact blw.size | exact BoxAt.lt (n := w.heap.size) inferInstance)); intro v4 w4 ho4 hg4 ha4; obtain ⟨A4, c4, rfl, _, _⟩ := own_slice ho4; have HO4 := hide ho4; have HB4 := hide ((blw (a := w)).trans (grown_belowT hg4 (blw (a := w)).size (fun k hk => (HO.out.lt k hk).1))); clear ho4 hg4 ha4))
        clear hbG
        go_wp2
        go_roundw
        case rel => exact ⟨m + 1, A4, c4, l ++ [p2], by simp, by go_num, by omega, by simp [HLM.out], HSN.out, by rw [List.length_append, pps_app]; exact HO4.out, HB4.out⟩
        case measure => simp [intOf]; omega
    · obtain rfl : m = a.ss.length := by omega
      have HE := hide (show propsL a = some l by have := HPL.out; rwa [List.take_length] at this)
      have HPl := hide (show ∀ W, Blw wr W → Pl W A l from fun W b => ⟨Reads.of_own (own_tc HO.out), fun x hx => (HP.out x ((propsG_of HE.out).2.1 x hx)).step (blw (a := w) (W := wr)) |>.step b.h⟩)
      have TA := hide (fun W (h : Pl W A l) => agree_s A c l W h (by omega))
      go_wp2_with fail
      (with_reducible refine (TA.out _ (HPl.out _ inferInstance)).mono ?_)
      rintro e w5 ⟨rfl, hb5⟩
      haveI : Stp _ w5 := ⟨hb5⟩
      clear hb5
      go_wp2
      go_ret2
      rw [HE.out]
      exact ⟨A, c, rfl, Reads.of_own (own_tc HO.out), own_newA HO.out, blw⟩
end Go.Proofs.YtkglclekieckoaaGreat

namespace Go.Proofs.YtkglclekieckoaaGreat
set_option linter.unusedSimpArgs false
set_option linter.unusedVariables false
set_option linter.unusedSectionVars false
open Go.RowKit

section
variable [Avoid]
/-- fields that are no rows of its own are written -/
theorem MK.upd {w W : World} {C : List Nat} {g : Nat} {a a' : Ag} {t t' : Tu} (h : MK w C g a t) (hb : BoxAt W g (mkC a' t') 92) (hG : Gr [g] w W) (e1 : a'.GA = a.GA) (e2 : a'.gc = a.gc) (e3 : a'.gt = a.gt) (e4 : t'.A = t.A) (e5 : t'.c = t.c) (e6 : t'.ts = t.ts) (ha : AgO W C a') (ht : TuO W C t') : MK W C g a' t' := by
  refine ⟨hb, h.gC, fun i hi => Nat.lt_of_lt_of_le (h.lt i hi) hG.size, ?_, ?_, ?_, ?_, ha, ht⟩
  · rw [e1, e2, e3]
    exact own_same h.go (fun i hi => hG.blk i (h.ltC i (h.goC i hi).1) (by simp; exact (h.goC i hi).2))
  · rw [e1, e2, e3]; exact h.goC
  · rw [e4, e5, e6]
    exact own_same h.tw (fun i hi => hG.blk i (h.ltC i (h.twC i hi).1) (by simp; exact (h.twC i hi).2.1))
  · rw [e1, e2, e3, e4, e5, e6]; exact h.twC
theorem Gr.tr {C : List Nat} {g : Nat} {w W : World} (h : Gr [g] w W) (hg : g ∈ C) : Tr C C w W := .of (h.mono' (fun i hi => by rw [List.mem_singleton.1 hi]; exact hg))
end
theorem knownL_br (a : Ag) : knownL a.br = knownL a := by
  unfold knownL
  show (a.gt.map Pp.br).foldl _ _ = _
  rw [List.foldl_map]
  rfl
theorem whomL_br (a : Ag) : whomL a.br = whomL a := by
  unfold whomL
  rw [knownL_br]
  rfl
theorem own_app {w W : World} {base : Nat} {e : TypeId} {k n : Nat} {v : Value} {xs : List Value} {r : Option Nat} (h : w.ownsRow base e k v n xs) (hg : w.grownBy W r) (hr : ∀ b, v.ownBlock = some b → r ≠ some b) : W.ownsRow base e k v n xs := own_same h (fun i hi => hg.block i (h.lt i hi).2 (fun e => hr i hi e.symm))
def csU (l : List Cl) (m : Nat) : List Pr := livesL (thereL (l.take m))
def usU (l : List Cl) (m : Nat) : List Int := (thereL (l.take m)).map Cl.cid
theorem csU_gone {l : List Cl} {m : Nat} {x : Cl} (h : l[m]? = some x) (hg : x.gone = true) : csU l (m + 1) = csU l m ∧ usU l (m + 1) = usU l m := by
  unfold csU usU thereL
  rw [take_succ_of h, List.filter_append]
  simp [hg]
theorem csU_there {l : List Cl} {m : Nat} {x : Cl} (h : l[m]? = some x) (hg : x.gone = false) : csU l (m + 1) = csU l m ++ [(x.n, x.i)] ∧ usU l (m + 1) = usU l m ++ [x.cid] := by
  unfold csU usU thereL livesL
  rw [take_succ_of h, List.filter_append]
  simp [hg]
theorem csU_len (l : List Cl) (m : Nat) : (csU l m).length ≤ l.length ∧ (usU l m).length ≤ l.length := by
  have h : (thereL (l.take m)).length ≤ l.length := by
    unfold thereL
    have h1 := List.length_filter_le (fun x : Cl => !x.gone) (l.take m)
    have h2 : (l.take m).length ≤ l.length := by rw [List.length_take]; omega
    omega
  unfold csU usU livesL
  simp only [List.length_map]
  exact ⟨h, h⟩
theorem refuse_br (a : Ag) (t : Tu) (n : Int) (h : n = 0 ∨ n = um ∨ (raiseR (takenR a.cl)).2 = false) : (⟨a.n, a.i, a.rd, a.SA, a.sc, a.ss, a.LA, a.lc, a.cl, a.TA, a.tc, a.td, a.GA, a.gc, a.gt, a.dn, true, a.vw⟩ : Ag).br = (proposeP a.br t.br n).1 ∧ t.br = (proposeP a.br t.br n).2 := by
  rw [propose_no (a := a.br) (t := t.br) (n := n) h]
  exact ⟨rfl, rfl⟩
theorem whomL_len (a : Ag) : (whomL a).length ≤ 6 := by
  unfold whomL
  split
  · exact ownL_len a
  · omega
theorem raise_len (l : List Cl) : (raiseR (takenR l)).1.length ≤ 6 := by
  have h := takenR_len l
  unfold raiseR
  split
  · exact h
  · simpa using h
theorem reads_te1x (W : World) (m : Nat) (y : Te) [h : BoxAt W m #[.int .i64 y.n, .int .u64 y.i, .int .i64 y.nt.k, .int .i64 y.nt.n, .int .u64 y.nt.i, .int .u64 y.nt.rd, .int .u64 y.nt.cd, .slice y.nt.SA y.nt.st.length y.nt.sc, .int .u64 y.nt.vw.r, .int .i64 y.nt.vw.n, .int .u64 y.nt.vw.i, .slice y.nt.vw.MA y.nt.vw.ms.length y.nt.vw.mc, .slice y.nt.vw.UA y.nt.vw.us.length y.nt.vw.uc] 117] : Reads W W.heap.size 13 (some ⟨m, 0, none⟩) 1 (tes [y]) :=
  ⟨rfl, fun _ => ⟨_, _, rfl, h.lt, fun j u hu => by
    rw [Nat.zero_add, cell?_box]
    have e : tes [y] = (#[.int .i64 y.n, .int .u64 y.i, .int .i64 y.nt.k, .int .i64 y.nt.n, .int .u64 y.nt.i, .int .u64 y.nt.rd, .int .u64 y.nt.cd, .slice y.nt.SA y.nt.st.length y.nt.sc, .int .u64 y.nt.vw.r, .int .i64 y.nt.vw.n, .int .u64 y.nt.vw.i, .slice y.nt.vw.MA y.nt.vw.ms.length y.nt.vw.mc, .slice y.nt.vw.UA y.nt.vw.us.length y.nt.vw.uc] : Array Value).toList := rfl
    rw [e] at hu
    simpa using hu⟩⟩
theorem Tr.cell {C C' : List Nat} {X W : World} (h : Tr C C' X W) {b i : Nat} {v : Value} (hc : CellAt X b i v) (hb : b ∉ C) : CellAt W b i v := ⟨Nat.lt_of_lt_of_le hc.lt h.g.size, (World.cell?_of_block (w := X) (a := ⟨b, i, none⟩) (h.g.blk b hc.lt hb)).trans hc.h⟩
theorem propose_eq {a : Ag} {t : Tu} {n : Int} {A1 A3 GA4 : Option Addr} {c1 c3 gc4 : Nat} {cl1 : List Cl} {td2 : List Pr} {G : List Pp} (e1 : (raiseR (takenR a.cl)).1 = cl1) (e2 : whomL (⟨a.n, a.i, n, a.SA, a.sc, a.ss, A1, c1, cl1, a.TA, a.tc, a.td, a.GA, a.gc, a.gt, false, a.sp, a.vw⟩ : Ag).br = td2) (e3 : G.map Pp.br = gotL (a.gt.map Pp.br) ⟨a.n, a.i, n, none, 0, a.ss, none, 0, livesL (thereL cl1), none, 0, (thereL cl1).map Cl.cid⟩) :
    (⟨a.n, a.i, n, a.SA, a.sc, a.ss, A1, c1, cl1, A3, c3, td2, GA4, gc4, G, false, a.sp, a.vw⟩ : Ag).br = putA (toldA (begunA a.br n)) ∧ (⟨none, 0, t.br.ts ++ (thereL cl1).map (fun x => startT (⟨a.n, a.i, n, a.SA, a.sc, a.ss, A1, c1, cl1, A3, c3, td2, GA4, gc4, G, false, a.sp, a.vw⟩ : Ag).br (x.n, x.i) x.cid), true, ⟨a.n, a.i, n, none, 0, a.ss, none, 0, livesL (thereL cl1), none, 0, (thereL cl1).map Cl.cid⟩, t.md, t.vw.br⟩ : Tu) = sentT (toldA (begunA a.br n)) t.br := by
  have b1 : begunA a.br n = (⟨a.n, a.i, n, a.SA, a.sc, a.ss, A1, c1, cl1, a.TA, a.tc, a.td, a.GA, a.gc, a.gt, false, a.sp, a.vw⟩ : Ag).br := by rw [← e1]; rfl
  rw [b1]
  unfold toldA
  rw [e2]
  refine ⟨?_, rfl⟩
  unfold putA
  show (⟨a.n, a.i, n, a.SA, a.sc, a.ss, A1, c1, cl1, A3, c3, td2, GA4, gc4, G, false, a.sp, a.vw⟩ : Ag).br = _
  unfold Ag.br
  rw [e3]
  rfl
variable [Avoid]
def RetPr (w : World) (C : List Nat) (g : Nat) (r : Ag × Tu) (e : Ending) (w' : World) : Prop := e = .returned (.tuple #[]) ∧ ∃ C' a' t', MK w' C' g a' t' ∧ a'.br = r.1 ∧ t'.br = r.2 ∧ Tr C C' w w'
set_option maxRecDepth 100000 in
set_option maxHeartbeats 8000000 in
theorem propose_s (g : Nat) (C : List Nat) (a : Ag) (t : Tu) (n : Int) (w : World) (h : MK w C g a t) (hr : riseP a.gt) (hl : a.gt.length ≤ 12) (hc : ∀ p ∈ a.gt, p.cs.length ≤ 100) (hw : ∀ x ∈ a.cl, 0 ≤ x.cid ∧ x.cid ≤ 18446744073709551615) (htl : t.ts.length ≤ 500) :
    Calls Tryz.prog 36 #[.pointer (some ⟨g, 0, none⟩), .int .u64 n] w (RetPr w C g (proposeP a.br t.br n)) := by
  have hcl := h.ao.cl
  have T0 := hide (fun W (h : Reads W W.heap.size 6 a.LA a.cl.length (ccs a.cl)) => raise_s a.LA a.lc a.cl W h hcl hw)
  haveI := h.bx
  haveI : Src w a.LA a.cl.length 6 (ccs a.cl) := ⟨h.ao.c.1⟩
  have z := h.bx.lt
  haveI : LtN g w.heap.size := ⟨z⟩
  have H := hide h
  have HC := hide hc
  have HRI := hide hr
  clear h hc hr hw
  go_enter Tryz.func36, Tryz.ntmps36
  go_wp2_with fail
  (with_reducible refine (T0.out _ src).mono ?_)
  rintro e w1 ⟨v1, rfl, ho1, hb1⟩
  obtain ⟨A1, c1, rfl, _, _⟩ := own_slice ho1
  haveI : Stp w w1 := ⟨hb1⟩
  have z1 := hb1.size
  haveI : LtN g w1.heap.size := ⟨by omega⟩
  have HL := hide (raise_len a.cl)
  have HRF := hide (refuse_br a t n)
  have HR1 := hide (RO.own (C := C ++ Avoid.D) ho1 (fun i hi => H.out.lt i hi))
  have HM1 := hide (H.out.below hb1)
  generalize hb : (raiseR (takenR a.cl)).2 = b at HRF ⊢
  have HB1 := hide hb1
  have HTX := hide ((Tr.bel (C := C) hb1).trans (.set (m := g) w1 8 (.bool true) H.out.gC))
  have NO : Hid ((n = 0 ∨ n = um ∨ b = false) → ∀ W, Below (w1.setCell ⟨g, 8, none⟩ (.bool true)).heap.size (w1.setCell ⟨g, 8, none⟩ (.bool true)) W → RetPr w C g (proposeP a.br t.br n) (.returned (.tuple #[])) W) := hide fun hb W hW => by
    have q := HRF.out hb
    have k := H.out.ao.tr HTX.out
    have hm : MK (w1.setCell ⟨g, 8, none⟩ (.bool true)) C g ⟨a.n, a.i, a.rd, a.SA, a.sc, a.ss, a.LA, a.lc, a.cl, a.TA, a.tc, a.td, a.GA, a.gc, a.gt, a.dn, true, a.vw⟩ t := HM1.out.upd (.of_cs (@BoxAt.setAt _ g 8 (.bool true) (mkC a t) _ inferInstance) rfl) (.set _ 8 _ (List.mem_singleton.2 rfl)) rfl rfl rfl rfl rfl rfl ⟨k.s, k.sl, k.c, k.cl, k.t, k.tl, k.p, k.pl, k.v⟩ (H.out.uo.tr HTX.out)
    exact ⟨rfl, C, _, t, hm.below hW, q.1, q.2, HTX.out.trans (.bel hW)⟩
  clear ho1 hb1 T0
  cases b0 : (n == 0)
  · cases b1 : (n == 18446744073709551615)
    · cases b
      · go_wp2
        go_end0
        exact NO.out (by simp) _ (below_alloc _ _)
      · have hn0 : n ≠ 0 := by simpa using b0
        have hn1 : n ≠ um := by simpa using b1
        have HPY := hide (propose_yes (a := a.br) (t := t.br) (n := n) (by simp only [not_or, Bool.not_eq_false]; exact ⟨hn0, hn1, hb⟩))
        clear NO HRF hn0 hn1
        generalize hcl1 : (raiseR (takenR a.cl)).1 = cl1 at HR1 HL ⊢
        have HCL := hide hcl1
        clear hcl1
        go_wp2_with fail
        go_region
        have HT1 := hide (((Tr.bel (C := C) HB1.out).trans (.set (m := g) w1 2 (.int .u64 n) H.out.gC)).trans ((Tr.set (m := g) _ 4 (.slice A1 cl1.length c1) H.out.gC).trans (.set (m := g) _ 7 (.bool false) H.out.gC)))
        have HMz : Hid (MK (((w1.setCell ⟨g, 2, none⟩ (.int .u64 n)).setCell ⟨g, 4, none⟩ (.slice A1 cl1.length c1)).setCell ⟨g, 7, none⟩ (.bool false)) C g (⟨a.n, a.i, n, a.SA, a.sc, a.ss, A1, c1, cl1, a.TA, a.tc, a.td, a.GA, a.gc, a.gt, false, a.sp, a.vw⟩ : Ag) t) := hide (by
          have k := H.out.ao.tr HT1.out
          refine HM1.out.upd (.of_cs (@BoxAt.setAt _ g 7 (.bool false) _ _ (@BoxAt.setAt _ g 4 (.slice A1 cl1.length c1) _ _ (@BoxAt.setAt w1 g 2 (.int .u64 n) (mkC a t) _ inferInstance))) rfl) (((Gr.set w1 2 _ (List.mem_singleton.2 rfl)).trans (.set _ 4 _ (List.mem_singleton.2 rfl))).trans (.set _ 7 _ (List.mem_singleton.2 rfl))) rfl rfl rfl rfl rfl rfl ⟨k.s, k.sl, ?_, by have := HL.out; show cl1.length ≤ 1000000; omega, k.t, k.tl, k.p, k.pl, k.v⟩ (H.out.uo.tr HT1.out)
          exact HR1.out.tr (Tr.av (.of (((Gr.set w1 2 _ H.out.gC).trans (.set _ 4 _ H.out.gC)).trans (.set _ 7 _ H.out.gC)))))
        generalize hwz : ((w1.setCell ⟨g, 2, none⟩ (.int .u64 n)).setCell ⟨g, 4, none⟩ (.slice A1 cl1.length c1)).setCell ⟨g, 7, none⟩ (.bool false) = wz at HT1 HMz ⊢
        have zz : wz.heap.size = w1.heap.size := by rw [← hwz]; simp [World.setCell]
        haveI : BoxAt wz g #[.int .i64 a.n, .int .u64 a.i, .int .u64 n, .slice a.SA a.ss.length a.sc, .slice A1 cl1.length c1, .slice a.TA a.td.length a.tc, .slice a.GA a.gt.length a.gc, .bool false, .bool a.sp, .int .u64 a.vw.r, .int .i64 a.vw.n, .int .u64 a.vw.i, .slice a.vw.MA a.vw.ms.length a.vw.mc, .slice a.vw.UA a.vw.us.length a.vw.uc, .slice t.A t.ts.length t.c, .bool t.sd, .int .i64 t.pp.n, .int .u64 t.pp.i, .int .u64 t.pp.rd, .slice t.pp.SA t.pp.ss.length t.pp.sc, .slice t.pp.CA t.pp.cs.length t.pp.cc, .slice t.pp.UA t.pp.us.length t.pp.uc, .bool t.md, .int .u64 t.vw.r, .int .i64 t.vw.n, .int .u64 t.vw.i, .slice t.vw.MA t.vw.ms.length t.vw.mc, .slice t.vw.UA t.vw.us.length t.vw.uc] 92 := .of_cs HMz.out.bx rfl
        haveI : LtN g wz.heap.size := ⟨by omega⟩
        have TW := hide (fun W (hW : MK W C g (⟨a.n, a.i, n, a.SA, a.sc, a.ss, A1, c1, cl1, a.TA, a.tc, a.td, a.GA, a.gc, a.gt, false, a.sp, a.vw⟩ : Ag) t) => whom_s g C (⟨a.n, a.i, n, a.SA, a.sc, a.ss, A1, c1, cl1, a.TA, a.tc, a.td, a.GA, a.gc, a.gt, false, a.sp, a.vw⟩ : Ag) t W hW (by show a.gt.length ≤ 15; omega) HC.out)
        have HWB := hide (whomL_br (⟨a.n, a.i, n, a.SA, a.sc, a.ss, A1, c1, cl1, a.TA, a.tc, a.td, a.GA, a.gc, a.gt, false, a.sp, a.vw⟩ : Ag))
        clear hwz
        go_wp2_with fail
        (with_reducible refine (TW.out _ (HMz.out.below blw)).mono ?_)
        rintro e w3 ⟨A3, c3, rfl, hS3, hN3, hb3⟩
        generalize htd : whomL (⟨a.n, a.i, n, a.SA, a.sc, a.ss, A1, c1, cl1, a.TA, a.tc, a.td, a.GA, a.gc, a.gt, false, a.sp, a.vw⟩ : Ag) = td2 at HWB hS3 ⊢
        have HTD := hide htd
        haveI : Stp _ w3 := ⟨hb3⟩
        have z3 : wz.heap.size ≤ w3.heap.size := (blw (a := wz) (W := w3)).size
        haveI : LtN g w3.heap.size := ⟨by omega⟩
        have HT3 := hide ((HT1.out.trans (.bel (blw (a := wz) (W := w3)))).trans (.set (m := g) w3 5 (.slice A3 td2.length c3) H.out.gC))
        have HM3 : Hid (MK (w3.setCell ⟨g, 5, none⟩ (.slice A3 td2.length c3)) C g (⟨a.n, a.i, n, a.SA, a.sc, a.ss, A1, c1, cl1, A3, c3, td2, a.GA, a.gc, a.gt, false, a.sp, a.vw⟩ : Ag) t) := hide (by
          have hm := HMz.out.below (blw (a := wz) (W := w3))
          have k := hm.ao.tr (.set (m := g) w3 5 (.slice A3 td2.length c3) H.out.gC)
          exact hm.upd (.of_cs (@BoxAt.setAt w3 g 5 (.slice A3 td2.length c3) _ _ hm.bx) rfl) (.set _ 5 _ (List.mem_singleton.2 rfl)) rfl rfl rfl rfl rfl rfl ⟨k.s, k.sl, k.c, k.cl, (RO.new (C := C ++ Avoid.D) hS3 hN3 (fun i hi => Nat.lt_of_lt_of_le (HMz.out.lt i hi) (blw (a := wz)).size)).tr (.set (m := g) w3 5 (.slice A3 td2.length c3) (List.mem_append_left _ H.out.gC)), by show td2.length ≤ 1000000; rw [← htd]; have := whomL_len (⟨a.n, a.i, n, a.SA, a.sc, a.ss, A1, c1, cl1, a.TA, a.tc, a.td, a.GA, a.gc, a.gt, false, a.sp, a.vw⟩ : Ag); omega, k.p, k.pl, k.v⟩ (hm.uo.tr (.set (m := g) w3 5 (.slice A3 td2.length c3) H.out.gC)))
        clear htd hS3 hN3 hb3 TW
        go_wp2_with fail
        generalize hwy : w3.setCell ⟨g, 5, none⟩ (.slice A3 td2.length c3) = wy at HT3 HM3 ⊢
        have zy : wy.heap.size = w3.heap.size := by rw [← hwy]; simp [World.setCell]
        haveI : BoxAt wy g #[.int .i64 a.n, .int .u64 a.i, .int .u64 n, .slice a.SA a.ss.length a.sc, .slice A1 cl1.length c1, .slice A3 td2.length c3, .slice a.GA a.gt.length a.gc, .bool false, .bool a.sp, .int .u64 a.vw.r, .int .i64 a.vw.n, .int .u64 a.vw.i, .slice a.vw.MA a.vw.ms.length a.vw.mc, .slice a.vw.UA a.vw.us.length a.vw.uc, .slice t.A t.ts.length t.c, .bool t.sd, .int .i64 t.pp.n, .int .u64 t.pp.i, .int .u64 t.pp.rd, .slice t.pp.SA t.pp.ss.length t.pp.sc, .slice t.pp.CA t.pp.cs.length t.pp.cc, .slice t.pp.UA t.pp.us.length t.pp.uc, .bool t.md, .int .u64 t.vw.r, .int .i64 t.vw.n, .int .u64 t.vw.i, .slice t.vw.MA t.vw.ms.length t.vw.mc, .slice t.vw.UA t.vw.us.length t.vw.uc] 92 := .of_cs HM3.out.bx rfl
        haveI : LtN g wy.heap.size := ⟨by omega⟩
        clear hwy
        haveI : Sz wy w3.heap.size := ⟨zy⟩
        haveI : Src wy A1 cl1.length 6 (ccs cl1) := ⟨HM3.out.ao.c.1⟩
        have hcl6 := HL.out
        go_region
        go_wp2_with fail
        go_loopw [73] (fun s73 wr => ∃ (m : Nat) (A : Option Addr) (c : Nat) (B : Option Addr) (d : Nat), s73 = .int .i64 m ∧ m ≤ cl1.length ∧ BoxAt wr w3.heap.size #[.int .i64 a.n, .int .u64 a.i, .int .u64 n, .slice a.SA a.ss.length a.sc, .slice A (csU cl1 m).length c, .slice B (usU cl1 m).length d] 41 ∧ wr.ownsRow (w3.heap.size + 1) 25 2 (.slice A (csU cl1 m).length c) (csU cl1 m).length (pcs (csU cl1 m)) ∧ wr.ownsRow (w3.heap.size + 1) 22 1 (.slice B (usU cl1 m).length d) (usU cl1 m).length (ucs (usU cl1 m)) ∧ (∀ b, (Value.slice A (csU cl1 m).length c).ownBlock = some b → (Value.slice B (usU cl1 m).length d).ownBlock ≠ some b) ∧ Below wy.heap.size wy wr) (fun s73 _ => cl1.length - (intOf s73).toNat)
        case atStart => exact ⟨0, none, 0, none, 0, rfl, Nat.zero_le _, inferInstance, World.ownsRow_nil _ _ _ _, World.ownsRow_nil _ _ _ _, (fun b hb => by cases hb), blw⟩
        case round =>
          obtain ⟨m, A, c, B, d, rfl, hm, hbx, hoA, hoB, hap, hB⟩ := hrel
          haveI hbi := hbx
          haveI : LeN wy.heap.size w3.heap.size := ⟨by omega⟩
          haveI : Stp wy wr := ⟨hB⟩
          have zr : wy.heap.size ≤ wr.heap.size := hB.size
          have zb : w3.heap.size < wr.heap.size := hbx.lt
          haveI : LtN w3.heap.size wr.heap.size := ⟨zb⟩
          haveI : LtN g wr.heap.size := ⟨by omega⟩
          have HA := hide hoA
          have HB := hide hoB
          have HAP := hide hap
          have hlA := (csU_len cl1 m).1
          have hlB := (csU_len cl1 m).2
          clear hbx hoA hoB hap hB
          by_cases hlt : m < cl1.length
          · obtain ⟨b, off, x, rfl, hb, hx, hat⟩ := (src (w := wy) (W := wr) (A := A1) (n := cl1.length) (k := 6) (xs := ccs cl1)).atC hlt
            haveI : InW b wr := ⟨hb⟩
            obtain ⟨g0, g1, g2, g3, g4, g5⟩ := hat
            have i0 : (0 : Int) ≤ (m : Int) := by omega
            have i1 : (m : Int) < (cl1.length : Int) := by omega
            haveI : LeN wy.heap.size (w3.heap.size + 1) := ⟨by omega⟩
            cases hg : x.gone
            · have HG := hide (csU_there hx hg)
              rw [hg] at g5
              clear hx hg
              go_wp2_with (first
                | (at_builtin; refine wpList_append_x Tryz.okP rfl (.tmp 81) (.tmp 84) rfl (w3.heap.size + 1) (.slice A (csU cl1 m).length c) (csU cl1 m).length (pcs (csU cl1 m)) 1 (pcs [(x.n, x.i)]) ?_ ?_ ?_ ?_ ?_ ?_ ?_ ?_; go_must ((focus (first | rfl | (simp [Act.eval, Act.put]; done))); (focus (exact own_tc HA.out)); (focus (refine ⟨_, _, rfl, ?_⟩; exact reads_p1x _ _ x.n x.i)); (focus (exact pc_one _)); (focus (unfold maxLen; omega)); (focus omega); (focus (first | omega | (simp; done) | (simp; omega) | exact blw.size | exact BoxAt.lt (n := w.heap.size) inferInstance)); intro v4 w4 ho4 hg4 ha4; obtain ⟨A4, c4, rfl, _, _⟩ := own_slice ho4; haveI : StpB (w3.heap.size + 1) _ w4 := ⟨grown_belowT hg4 (by simp; omega) (fun k hk => (HA.out.lt k hk).1)⟩; have z4 := hg4.size; simp at z4; haveI : BoxAt w4 wr.heap.size #[.int .i64 x.n, .int .u64 x.i, .int .u64 x.cid, .int .u64 x.rnd, .int .u64 x.heard, .bool false] 48 := BoxAt.gr inferInstance hg4 (fun e => by have := (HA.out.lt _ e).2; omega); have HA4 := hide ho4; have HB4 := hide (own_app (own_tc HB.out) hg4 (fun b hb e => HAP.out b e hb)); have HN4 := hide (show ∀ b, (Value.slice A4 ((csU cl1 m).length + 1) c4).ownBlock = some b → (Value.slice B (usU cl1 m).length d).ownBlock ≠ some b ∧ b < w4.heap.size from fun b hb => ⟨fun e => by rcases ha4 with h | h; (focus (exact HAP.out b (h.symm.trans hb) e)); have h2 := h.symm.trans hb; injection h2 with h2; have := (HB.out.lt b e).2; simp at h2; omega, (ho4.lt b hb).2⟩); clear ho4 hg4 ha4))
                | (at_builtin; refine wpList_append_x Tryz.okU rfl (.tmp 88) (.tmp 91) rfl (w3.heap.size + 1) (.slice B (usU cl1 m).length d) (usU cl1 m).length (ucs (usU cl1 m)) 1 (ucs [x.cid]) ?_ ?_ ?_ ?_ ?_ ?_ ?_ ?_; go_must ((focus (first | rfl | (simp [Act.eval, Act.put]; done))); (focus (exact own_kp HB4.out)); (focus (refine ⟨_, _, rfl, ?_⟩; exact reads_u1x _ _ x.cid)); (focus (exact uc_one _)); (focus (unfold maxLen; omega)); (focus omega); (focus (first | omega | (simp; done) | (simp; omega) | exact blw.size | exact BoxAt.lt (n := w.heap.size) inferInstance)); intro v5 w5 ho5 hg5 ha5; obtain ⟨B5, d5, rfl, _, _⟩ := own_slice ho5; haveI : StpB (w3.heap.size + 1) _ w5 := ⟨grown_belowT hg5 (by simp [World.setCell]; omega) (fun k hk => (HB.out.lt k hk).1)⟩; have HB5 := hide ho5; have HA5 := hide (own_app (own_kp HA4.out) hg5 (fun b hb e => (HN4.out b hb).1 e)); have HN5 := hide (show ∀ b, (Value.slice A4 ((csU cl1 m).length + 1) c4).ownBlock = some b → (Value.slice B5 ((usU cl1 m).length + 1) d5).ownBlock ≠ some b from fun b hb e => by rcases ha5 with h | h; (focus (exact (HN4.out b hb).1 (h.symm.trans e))); have h2 := h.symm.trans e; injection h2 with h2; have := (HN4.out b hb).2; simp [World.setCell] at h2; omega); clear ho5 hg5 ha5))
                | fail)
              go_roundw
              case rel => exact ⟨m + 1, A4, c4, B5, d5, by go_num, by omega, by simp only [HG.out.1, HG.out.2, List.length_append, List.length_singleton]; infer_instance, by simp only [HG.out.1, List.length_append, List.length_singleton, show pcs (csU cl1 m ++ [(x.n, x.i)]) = pcs (csU cl1 m) ++ pcs [(x.n, x.i)] from List.flatMap_append]; exact own_kp HA5.out, by simp only [HG.out.2, List.length_append, List.length_singleton, show ucs (usU cl1 m ++ [x.cid]) = ucs (usU cl1 m) ++ ucs [x.cid] by simp [ucs]]; exact own_kp HB5.out, by simp only [HG.out.1, HG.out.2, List.length_append, List.length_singleton]; exact HN5.out, blw⟩
              case measure => simp [intOf]; omega
            · have HG := hide (csU_gone hx hg)
              rw [hg] at g5
              clear hx hg
              go_wp2
              go_roundw
              case rel => exact ⟨m + 1, A, c, B, d, by go_num, by omega, by simp only [HG.out.1, HG.out.2]; infer_instance, by simp only [HG.out.1]; exact own_tc HA.out, by simp only [HG.out.2]; exact own_tc HB.out, by simp only [HG.out.1, HG.out.2]; exact HAP.out, blw⟩
              case measure => simp [intOf]; omega
          · obtain rfl : m = cl1.length := by omega
            have hCS : csU cl1 cl1.length = livesL (thereL cl1) := by unfold csU; rw [List.take_length]
            have hUS : usU cl1 cl1.length = (thereL cl1).map Cl.cid := by unfold usU; rw [List.take_length]
            have HCS := hide hCS
            have HUS := hide hUS
            generalize csU cl1 cl1.length = CS at HA HB HAP hlA HCS hbi ⊢
            generalize usU cl1 cl1.length = US at HB HAP hlB HUS hbi ⊢
            clear hCS hUS
            have HMr := hide (HM3.out.below (blw (a := wy) (W := wr)))
            have HTr := hide (HT3.out.trans (.bel (blw (a := wy) (W := wr))))
            have HPP := hide (show PpO wr C ⟨a.n, a.i, n, a.SA, a.sc, a.ss, A, c, CS, B, d, US⟩ from ⟨HMr.out.ao.s, HMr.out.ao.sl, .own HA.out (fun i hi => by have := HM3.out.lt i hi; omega), by show CS.length ≤ 1000000; omega, .own HB.out (fun i hi => by have := HM3.out.lt i hi; omega), by show US.length ≤ 1000000; omega⟩)
            have TG := hide (got_s g C (⟨a.n, a.i, n, a.SA, a.sc, a.ss, A1, c1, cl1, A3, c3, td2, a.GA, a.gc, a.gt, false, a.sp, a.vw⟩ : Ag) t ⟨a.n, a.i, n, a.SA, a.sc, a.ss, A, c, CS, B, d, US⟩ wr HMr.out HPP.out HRI.out (by show a.gt.length ≤ 15; omega))
            go_wp2_with fail
            (with_reducible refine TG.out.mono ?_)
            rintro e w4 ⟨rfl, C4, GA4, gc4, G, hM4, hG4, hT4⟩
            have HM4 := hide (show MK w4 C4 g (⟨a.n, a.i, n, a.SA, a.sc, a.ss, A1, c1, cl1, A3, c3, td2, GA4, gc4, G, false, a.sp, a.vw⟩ : Ag) t from hM4)
            have HG4 := hide hG4
            have hnb : w3.heap.size ∉ C := fun hm => by have := HM3.out.ltC _ hm; omega
            obtain ⟨hb4, hn4⟩ := hT4.box hbi hnb
            haveI : BoxAt w4 w3.heap.size #[.int .i64 a.n, .int .u64 a.i, .int .u64 n, .slice a.SA a.ss.length a.sc, .slice A CS.length c, .slice B US.length d] 41 := hb4
            have HN4 := hide hn4
            have HBX4 := hide hb4
            have HP4 := hide (HPP.out.tr hT4)
            have HT4 := hide (HTr.out.trans hT4)
            haveI : BoxAt w4 g #[.int .i64 a.n, .int .u64 a.i, .int .u64 n, .slice a.SA a.ss.length a.sc, .slice A1 cl1.length c1, .slice A3 td2.length c3, .slice GA4 G.length gc4, .bool false, .bool a.sp, .int .u64 a.vw.r, .int .i64 a.vw.n, .int .u64 a.vw.i, .slice a.vw.MA a.vw.ms.length a.vw.mc, .slice a.vw.UA a.vw.us.length a.vw.uc, .slice t.A t.ts.length t.c, .bool t.sd, .int .i64 t.pp.n, .int .u64 t.pp.i, .int .u64 t.pp.rd, .slice t.pp.SA t.pp.ss.length t.pp.sc, .slice t.pp.CA t.pp.cs.length t.pp.cc, .slice t.pp.UA t.pp.us.length t.pp.uc, .bool t.md, .int .u64 t.vw.r, .int .i64 t.vw.n, .int .u64 t.vw.i, .slice t.vw.MA t.vw.ms.length t.vw.mc, .slice t.vw.UA t.vw.us.length t.vw.uc] 92 := .of_cs HM4.out.bx rfl
            have hTL : CS.length = (thereL cl1).length := by rw [HCS.out]; simp [livesL]
            have hUL : US.length = (thereL cl1).length := by rw [HUS.out]; simp
            have HTL := hide hTL
            have HUL := hide hUL
            clear hM4 hG4 hnb hb4 hn4 hT4 TG HA HB HAP hTL hUL
            go_wp2_with fail
            obtain ⟨wo, rfl⟩ : ∃ wo, wo = wr := ⟨wr, rfl⟩
            go_loopw [101] (fun s101 wr => ∃ (m : Nat) (C5 : List Nat) (t5 : Tu), s101 = .int .i64 m ∧ m ≤ CS.length ∧ MK wr C5 g (⟨a.n, a.i, n, a.SA, a.sc, a.ss, A1, c1, cl1, A3, c3, td2, GA4, gc4, G, false, a.sp, a.vw⟩ : Ag) t5 ∧ t5.br = ⟨none, 0, t.br.ts ++ ((thereL cl1).take m).map (fun x => startT (⟨a.n, a.i, n, a.SA, a.sc, a.ss, A1, c1, cl1, A3, c3, td2, GA4, gc4, G, false, a.sp, a.vw⟩ : Ag).br (x.n, x.i) x.cid), t.sd, t.pp.br, t.md, t.vw.br⟩ ∧ Tr C4 C5 w4 wr) (fun s101 _ => CS.length - (intOf s101).toNat)
            case atStart => exact ⟨0, C4, t, rfl, Nat.zero_le _, HM4.out, by simp [Tu.br], .refl _ _⟩
            case round =>
              obtain ⟨m, C5, t5, rfl, hm, hM5, ht5, hT5⟩ := hrel
              have HM5 := hide hM5
              have HT5 := hide hT5
              have Ht5 := hide ht5
              obtain ⟨hb5, hn5⟩ := hT5.box HBX4.out HN4.out
              haveI : BoxAt wr w3.heap.size #[.int .i64 a.n, .int .u64 a.i, .int .u64 n, .slice a.SA a.ss.length a.sc, .slice A CS.length c, .slice B US.length d] 41 := hb5
              haveI : BoxAt wr g #[.int .i64 a.n, .int .u64 a.i, .int .u64 n, .slice a.SA a.ss.length a.sc, .slice A1 cl1.length c1, .slice A3 td2.length c3, .slice GA4 G.length gc4, .bool false, .bool a.sp, .int .u64 a.vw.r, .int .i64 a.vw.n, .int .u64 a.vw.i, .slice a.vw.MA a.vw.ms.length a.vw.mc, .slice a.vw.UA a.vw.us.length a.vw.uc, .slice t5.A t5.ts.length t5.c, .bool t5.sd, .int .i64 t5.pp.n, .int .u64 t5.pp.i, .int .u64 t5.pp.rd, .slice t5.pp.SA t5.pp.ss.length t5.pp.sc, .slice t5.pp.CA t5.pp.cs.length t5.pp.cc, .slice t5.pp.UA t5.pp.us.length t5.pp.uc, .bool t5.md, .int .u64 t5.vw.r, .int .i64 t5.vw.n, .int .u64 t5.vw.i, .slice t5.vw.MA t5.vw.ms.length t5.vw.mc, .slice t5.vw.UA t5.vw.us.length t5.vw.uc] 92 := .of_cs hM5.bx rfl
              have HBX5 := hide hb5
              have HN5 := hide hn5
              have HP5 := hide (HP4.out.tr hT5)
              have htsl : t5.ts.length ≤ 900 := by
                have h1 := congrArg (fun u : Tu => u.ts.length) ht5
                simp [Tu.br] at h1
                omega
              have hgw : g < wr.heap.size := hM5.bx.lt
              haveI : LtN g wr.heap.size := ⟨hgw⟩
              have hbw : w3.heap.size < wr.heap.size := hb5.lt
              haveI : LtN w3.heap.size wr.heap.size := ⟨hbw⟩
              clear hM5 ht5 hT5 hb5 hn5
              by_cases hlt : m < CS.length
              · have hx : (thereL cl1)[m]? = some ((thereL cl1)[m]'(by have := HTL.out; omega)) := List.getElem?_eq_getElem _
                generalize (thereL cl1)[m]'(by have := HTL.out; omega) = x at hx
                have hcs : CS[m]? = some (x.n, x.i) := by rw [HCS.out]; unfold livesL; rw [List.getElem?_map, hx]; rfl
                have hus : US[m]? = some x.cid := by rw [HUS.out, List.getElem?_map, hx]; rfl
                have hml : m < US.length := by have := HUL.out; have := HTL.out; omega
                obtain ⟨ba, oa, x1, hA5, hba, hx1, p0, p1⟩ := (HP5.out.c.1 : Reads wr wr.heap.size 2 A CS.length (pcs CS)).at2 hlt
                obtain rfl : x1 = (x.n, x.i) := by rw [hcs] at hx1; injection hx1 with e; exact e.symm
                obtain ⟨bb, ob, u1, hB5, hbb, hu1, q0⟩ := (HP5.out.u.1 : Reads wr wr.heap.size 1 B US.length (ucs US)).atU hml
                obtain rfl : u1 = x.cid := by rw [hus] at hu1; injection hu1 with e; exact e.symm
                subst hA5 hB5
                have hbo : bb ∉ C5 := fun hm => HP5.out.u.2 (by show 0 < US.length; omega) _ rfl (List.mem_append_left _ hm)
                have HBO := hide hbo
                haveI : InW ba wr := ⟨hba⟩
                haveI : InW bb wr := ⟨hbb⟩
                haveI : CellAt wr bb (ob + m) (.int .u64 x.cid) := ⟨hbb, q0⟩
                have HX := hide hx
                have TS := hide (fun W (h : Sl W A3 td2) => (startN_s (⟨a.n, a.i, n, a.SA, a.sc, a.ss, A1, c1, cl1, A3, c3, td2, GA4, gc4, G, false, a.sp, a.vw⟩ : Ag) (x.n, x.i) x.cid W h (by have := HM5.out.ao.tl; exact this) : Calls Tryz.prog 73 #[.agg #[.int .i64 a.n, .int .u64 a.i, .int .u64 n, .slice a.SA a.ss.length a.sc, .slice A1 cl1.length c1, .slice A3 td2.length c3, .slice GA4 G.length gc4, .bool false, .bool a.sp, .int .u64 a.vw.r, .int .i64 a.vw.n, .int .u64 a.vw.i, .slice a.vw.MA a.vw.ms.length a.vw.mc, .slice a.vw.UA a.vw.us.length a.vw.uc], .agg #[.int .i64 x.n, .int .u64 x.i], .int .u64 x.cid] W (RetTe W (startT (⟨a.n, a.i, n, a.SA, a.sc, a.ss, A1, c1, cl1, A3, c3, td2, GA4, gc4, G, false, a.sp, a.vw⟩ : Ag) (x.n, x.i) x.cid))))
                have TT := hide (fun W y A c (hM : MK W C5 g (⟨a.n, a.i, n, a.SA, a.sc, a.ss, A1, c1, cl1, A3, c3, td2, GA4, gc4, G, false, a.sp, a.vw⟩ : Ag) t5) (hA : Reads W W.heap.size 13 A 1 (tes [y])) (hx : NtO W C5 y.nt) => tell_s g C5 (⟨a.n, a.i, n, a.SA, a.sc, a.ss, A1, c1, cl1, A3, c3, td2, GA4, gc4, G, false, a.sp, a.vw⟩ : Ag) t5 y A c W hM hA hx htsl)
                have i0 : (0 : Int) ≤ (m : Int) := by omega
                have i1 : (m : Int) < (CS.length : Int) := by omega
                have i2 : (m : Int) < (US.length : Int) := by omega
                clear hx hcs hus hx1 hu1 hbo
                go_wp2_with fail
                go_region_held3 (fun w' => w'.cell? ⟨g, 0, none⟩ = some (.int .i64 a.n) ∧ w'.cell? ⟨g, 1, none⟩ = some (.int .u64 a.i) ∧ w'.cell? ⟨g, 2, none⟩ = some (.int .u64 n) ∧ w'.cell? ⟨g, 3, none⟩ = some (.slice a.SA a.ss.length a.sc) ∧ w'.cell? ⟨g, 4, none⟩ = some (.slice A1 cl1.length c1) ∧ w'.cell? ⟨g, 5, none⟩ = some (.slice A3 td2.length c3) ∧ w'.cell? ⟨g, 6, none⟩ = some (.slice GA4 G.length gc4) ∧ w'.cell? ⟨g, 7, none⟩ = some (.bool false) ∧ w'.cell? ⟨g, 8, none⟩ = some (.bool a.sp) ∧ w'.cell? ⟨g, 9, none⟩ = some (.int .u64 a.vw.r) ∧ w'.cell? ⟨g, 10, none⟩ = some (.int .i64 a.vw.n) ∧ w'.cell? ⟨g, 11, none⟩ = some (.int .u64 a.vw.i) ∧ w'.cell? ⟨g, 12, none⟩ = some (.slice a.vw.MA a.vw.ms.length a.vw.mc) ∧ w'.cell? ⟨g, 13, none⟩ = some (.slice a.vw.UA a.vw.us.length a.vw.uc) ∧ w'.cell? ⟨wr.heap.size, 0, none⟩ = some (.int .i64 x.n) ∧ w'.cell? ⟨wr.heap.size, 1, none⟩ = some (.int .u64 x.i) ∧ w'.cell? ⟨w3.heap.size, 5, none⟩ = some (.slice (some ⟨bb, ob, none⟩) US.length d) ∧ w'.cell? ⟨bb, ob + m, none⟩ = some (.int .u64 x.cid)) ((refine ⟨?_, ?_, ?_, ?_, ?_, ?_, ?_, ?_, ?_, ?_, ?_, ?_, ?_, ?_, ?_, ?_, ?_, ?_⟩ <;> (first | (rw [cell?_box]; rfl) | exact cell?_ca _ _ _ _)))
                  (first
                    | (go_at_call 73; (with_reducible refine (TS.out _ ?_).mono ?_); (focus (exact Sl.step (w := wr) (A := A3) (l := td2) (HM5.out.ao.t).1 blw)); rintro e w6 ⟨y, hy, rfl, hn, hb6⟩; haveI : Stp _ w6 := ⟨hb6⟩; have HYO := hide (hn.o (C := C5) (fun i hi => Nat.lt_of_lt_of_le (HM5.out.lt i hi) (blw (a := wr)).size)); have HYE := hide hy; clear hn hb6 hy)
                    | (go_at_call 72; (with_reducible refine (TT.out _ y _ _ ?_ ?_ ?_).mono ?_); (focus (exact HM5.out.below blw)); (focus (exact reads_te1x _ _ y)); (focus (exact HYO.out.tr (.bel blw))); rintro e w7 ⟨rfl, C6, A6, c6, hM6, hT6⟩; haveI : BoxAt w7 g #[.int .i64 a.n, .int .u64 a.i, .int .u64 n, .slice a.SA a.ss.length a.sc, .slice A1 cl1.length c1, .slice A3 td2.length c3, .slice GA4 G.length gc4, .bool false, .bool a.sp, .int .u64 a.vw.r, .int .i64 a.vw.n, .int .u64 a.vw.i, .slice a.vw.MA a.vw.ms.length a.vw.mc, .slice a.vw.UA a.vw.us.length a.vw.uc, .slice A6 (t5.ts ++ [y]).length c6, .bool t5.sd, .int .i64 t5.pp.n, .int .u64 t5.pp.i, .int .u64 t5.pp.rd, .slice t5.pp.SA t5.pp.ss.length t5.pp.sc, .slice t5.pp.CA t5.pp.cs.length t5.pp.cc, .slice t5.pp.UA t5.pp.us.length t5.pp.uc, .bool t5.md, .int .u64 t5.vw.r, .int .i64 t5.vw.n, .int .u64 t5.vw.i, .slice t5.vw.MA t5.vw.ms.length t5.vw.mc, .slice t5.vw.UA t5.vw.us.length t5.vw.uc] 92 := .of_cs hM6.bx rfl; haveI : BoxAt w7 w3.heap.size #[.int .i64 a.n, .int .u64 a.i, .int .u64 n, .slice a.SA a.ss.length a.sc, .slice (some ⟨ba, oa, none⟩) CS.length c, .slice (some ⟨bb, ob, none⟩) US.length d] 41 := (hT6.box inferInstance HN5.out).1; haveI : BoxAt w7 wr.heap.size #[.int .i64 x.n, .int .u64 x.i] 25 := (hT6.box inferInstance (fun hm => by have := HM5.out.ltC _ hm; omega)).1; haveI : CellAt w7 bb (ob + m) (.int .u64 x.cid) := hT6.cell inferInstance HBO.out; have HM6 := hide hM6; have HT6 := hide (HT5.out.trans ((Tr.bel (blw (a := wr))).trans hT6)); clear hM6 hT6)
                    | fail)
                all_goals
                  go_wp2
                  go_roundw
                  case rel =>
                    refine ⟨m + 1, C6, t5.more [y] A6 c6, by go_num, by omega, HM6.out, ?_, HT6.out⟩
                    have e : (t5.more [y] A6 c6).br = ⟨none, 0, t5.br.ts ++ [y.br], t5.br.sd, t5.br.pp, t5.br.md, t5.br.vw⟩ := by simp [Tu.more, Tu.br]
                    rw [e, Ht5.out, HYE.out, take_succ_of HX.out, List.map_append, ← List.append_assoc]
                    rfl
                  case measure => simp [intOf]; omega
              · obtain rfl : m = CS.length := by omega
                have TCP := hide (fun W (h : Pp.Ok W (⟨a.n, a.i, n, a.SA, a.sc, a.ss, A, c, CS, B, d, US⟩ : Pp)) => (cpP_s (⟨a.n, a.i, n, a.SA, a.sc, a.ss, A, c, CS, B, d, US⟩ : Pp) W h : Calls Tryz.prog 53 #[.agg #[.int .i64 a.n, .int .u64 a.i, .int .u64 n, .slice a.SA a.ss.length a.sc, .slice A CS.length c, .slice B US.length d]] W (RetPk W (⟨a.n, a.i, n, a.SA, a.sc, a.ss, A, c, CS, B, d, US⟩ : Pp))))
                go_wp2_with fail
                (with_reducible refine (TCP.out _ (HP5.out.ok.step blw)).mono ?_)
                rintro e w8 ⟨y, hy, rfl, hn, hb8⟩
                haveI : Stp _ w8 := ⟨hb8⟩
                haveI : LtN g w8.heap.size := ⟨Nat.lt_of_lt_of_le hgw (blw (a := wr)).size⟩
                have HYO := hide (hn.o (C := C5) (fun i hi => Nat.lt_of_lt_of_le (HM5.out.lt i hi) (blw (a := wr)).size))
                have HYE := hide hy
                have HM8 := hide (HM5.out.below (blw (a := wr) (W := w8)))
                have HT8 := hide (HT5.out.trans (.bel (blw (a := wr) (W := w8))))
                clear hn hy hb8 TCP
                go_wp2
                go_end0
                have HB8 := HM8.out.bx
                have hgr : Gr [g] w8 ((((((((w8).setCell ⟨g, 15, none⟩ (.bool true)).setCell ⟨g, 16, none⟩ (.int .i64 y.n)).setCell ⟨g, 17, none⟩ (.int .u64 y.i)).setCell ⟨g, 18, none⟩ (.int .u64 y.rd)).setCell ⟨g, 19, none⟩ (.slice y.SA y.ss.length y.sc)).setCell ⟨g, 20, none⟩ (.slice y.CA y.cs.length y.cc)).setCell ⟨g, 21, none⟩ (.slice y.UA y.us.length y.uc)) := (((((((Gr.refl [g] w8).trans (.set _ 15 (.bool true) (List.mem_singleton.2 rfl))).trans (.set _ 16 (.int .i64 y.n) (List.mem_singleton.2 rfl))).trans (.set _ 17 (.int .u64 y.i) (List.mem_singleton.2 rfl))).trans (.set _ 18 (.int .u64 y.rd) (List.mem_singleton.2 rfl))).trans (.set _ 19 (.slice y.SA y.ss.length y.sc) (List.mem_singleton.2 rfl))).trans (.set _ 20 (.slice y.CA y.cs.length y.cc) (List.mem_singleton.2 rfl))).trans (.set _ 21 (.slice y.UA y.us.length y.uc) (List.mem_singleton.2 rfl))
                have htr : Tr C5 C5 w8 ((((((((w8).setCell ⟨g, 15, none⟩ (.bool true)).setCell ⟨g, 16, none⟩ (.int .i64 y.n)).setCell ⟨g, 17, none⟩ (.int .u64 y.i)).setCell ⟨g, 18, none⟩ (.int .u64 y.rd)).setCell ⟨g, 19, none⟩ (.slice y.SA y.ss.length y.sc)).setCell ⟨g, 20, none⟩ (.slice y.CA y.cs.length y.cc)).setCell ⟨g, 21, none⟩ (.slice y.UA y.us.length y.uc)) := .of (hgr.mono' (fun i hi => by rw [List.mem_singleton.1 hi]; exact HM8.out.gC))
                have hm : MK ((((((((w8).setCell ⟨g, 15, none⟩ (.bool true)).setCell ⟨g, 16, none⟩ (.int .i64 y.n)).setCell ⟨g, 17, none⟩ (.int .u64 y.i)).setCell ⟨g, 18, none⟩ (.int .u64 y.rd)).setCell ⟨g, 19, none⟩ (.slice y.SA y.ss.length y.sc)).setCell ⟨g, 20, none⟩ (.slice y.CA y.cs.length y.cc)).setCell ⟨g, 21, none⟩ (.slice y.UA y.us.length y.uc)) C5 g (⟨a.n, a.i, n, a.SA, a.sc, a.ss, A1, c1, cl1, A3, c3, td2, GA4, gc4, G, false, a.sp, a.vw⟩ : Ag) ⟨t5.A, t5.c, t5.ts, true, y, t5.md, t5.vw⟩ := HM8.out.upd (.of_cs (@BoxAt.setAt _ g 21 (.slice y.UA y.us.length y.uc) _ _ (@BoxAt.setAt _ g 20 (.slice y.CA y.cs.length y.cc) _ _ (@BoxAt.setAt _ g 19 (.slice y.SA y.ss.length y.sc) _ _ (@BoxAt.setAt _ g 18 (.int .u64 y.rd) _ _ (@BoxAt.setAt _ g 17 (.int .u64 y.i) _ _ (@BoxAt.setAt _ g 16 (.int .i64 y.n) _ _ (@BoxAt.setAt _ g 15 (.bool true) _ _ HB8))))))) rfl) hgr rfl rfl rfl rfl rfl rfl (HM8.out.ao.tr htr) ⟨(HM8.out.uo.tr htr).t, (HM8.out.uo.tr htr).tl, HYO.out.tr htr, (HM8.out.uo.tr htr).v⟩
                have hq := propose_eq (t := t) (A1 := A1) (c1 := c1) (A3 := A3) (c3 := c3) (GA4 := GA4) (gc4 := gc4) HCL.out HWB.out (by rw [HG4.out, HCS.out, HUS.out]; rfl)
                refine ⟨rfl, C5, _, _, hm, ?_, ?_, (HT4.out.trans HT8.out).trans htr⟩
                · rw [HPY.out]; exact hq.1
                · rw [HPY.out]
                  have e : (⟨t5.A, t5.c, t5.ts, true, y, t5.md, t5.vw⟩ : Tu).br = ⟨none, 0, t5.br.ts, true, y.br, t5.br.md, t5.br.vw⟩ := rfl
                  rw [e, Ht5.out, HYE.out]
                  refine Eq.trans ?_ hq.2
                  rw [List.take_of_length_le (by have := HTL.out; omega), HCS.out, HUS.out]
                  rfl
    · have e : n = 18446744073709551615 := by simpa using b1
      go_wp2
      go_end0
      exact NO.out (.inr (.inl e)) _ (below_alloc _ _)
  · have e : n = 0 := by simpa using b0
    go_wp2
    go_end0
    exact NO.out (.inl e) _ (below_alloc _ _)
end Go.Proofs.YtkglclekieckoaaGreat

namespace Go.Proofs.YtkglclekieckoaaGreat
set_option linter.unusedSimpArgs false
set_option linter.unusedVariables false
set_option linter.unusedSectionVars false
open Go.RowKit

set_option maxRecDepth 100000 in
set_option maxHeartbeats 4000000 in
theorem together_s (A : Option Addr) (c : Nat) (l : List Pr) (w : World) (h : Sl w A l) (hl : l.length ≤ 1000000) : Calls Tryz.prog 29 #[.slice A l.length c] w (RetB w (togetherB l)) := by
  have T1 := hide (fun W (h : Reads W W.heap.size 2 A l.length (pcs l)) => set_any A c l W h hl)
  have T2 := hide (fun W (h : Reads W W.heap.size 2 A l.length (pcs l)) => nodes_s A c l W h hl)
  haveI : Src w A l.length 2 (pcs l) := ⟨h⟩
  clear h
  go_enter Tryz.func29, Tryz.ntmps29
  go_wp2_with fail
  go_loopw [7] (fun j wr => ∃ m : Nat, j = .int .i64 m ∧ m ≤ l.length ∧ (∀ p ∈ l.take m, p.1 ≤ 4) ∧ Below w.heap.size w wr) (fun j _ => l.length - (intOf j).toNat)
  case atStart => exact ⟨0, rfl, Nat.zero_le _, (fun p hp => by simp at hp), blw⟩
  case round =>
    obtain ⟨m, rfl, hm, hf, hB⟩ := hrel
    haveI : Stp w wr := ⟨hB⟩
    have HF := hide hf
    clear hf hB
    by_cases hlt : m < l.length
    · obtain ⟨b, off, p, hA, hb, hp, g0, g1⟩ := (src (w := w) (W := wr) (A := A) (n := l.length) (k := 2) (xs := pcs l)).at2 hlt
      haveI : InW b wr := ⟨hb⟩
      have HPP := hide hp
      have i0 : (0 : Int) ≤ (m : Int) := by omega
      have i1 : (m : Int) < (l.length : Int) := by omega
      subst hA
      clear hp
      by_cases h4 : 4 < p.1
      · have d1 : decide ((4 : Int) < p.1) = true := decide_eq_true h4
        have HE := hide (show togetherB l = false by
          have : ¬ togetherB l = true := fun e => by
            have := ((together_iff l).1 e).1 p (List.mem_of_getElem? HPP.out)
            omega
          simpa using this)
        go_wp2
        go_ret
        exact ⟨by rw [HE.out]; rfl, blw⟩
      · have d1 : decide ((4 : Int) < p.1) = false := decide_eq_false h4
        have HH := hide (show p.1 ≤ 4 by omega)
        go_wp2
        go_roundw
        case rel => exact ⟨m + 1, by go_num, by omega, (fun q hq => by
          rw [take_succ_of HPP.out] at hq
          rcases List.mem_append.1 hq with hq | hq
          · exact HF.out q hq
          · rw [List.mem_singleton.1 hq]; exact HH.out), blw⟩
        case measure => simp [intOf]; omega
    · obtain rfl : m = l.length := by omega
      have hall : l.all (fun p => decide (p.1 ≤ 4)) = true := List.all_eq_true.2 (fun p hp => decide_eq_true (HF.out p (by rw [List.take_length]; exact hp)))
      have HE := hide (show togetherB l = (decide ((0 : Int) < (l.length : Int)) && (decide ((l.length : Int) ≤ 4) && (setB l && (((nodesL l).length : Int) == (l.length : Int))))) by
        unfold togetherB
        rw [hall, Bool.true_and]
        congr 1
        · rw [decide_eq_decide]; omega
        · congr 1
          · rw [decide_eq_decide]; omega
          · congr 1
            rw [Bool.eq_iff_iff]; simp; omega)
      clear hall
      by_cases hp : 0 < l.length
      · have f0 : decide ((0 : Int) < (l.length : Int)) = true := decide_eq_true (by omega)
        rw [f0, Bool.true_and] at HE
        have hp1 : (0 : Int) < (l.length : Int) := by omega
        clear f0
        generalize setB l = b3 at T1 HE
        generalize nodesL l = N at T2 HE
        generalize f2 : decide ((l.length : Int) ≤ 4) = b2 at HE
        generalize f4 : ((N.length : Int) == (l.length : Int)) = b4 at HE
        cases b2 <;> cases b3 <;> cases b4
        all_goals
          go_wp2_with (first
            | (go_at_call 63; (with_reducible refine (T1.out _ src).mono ?_); rintro e w1 ⟨rfl, hb⟩; haveI : Stp _ w1 := ⟨hb⟩; clear hb)
            | (go_at_call 40; (with_reducible refine (T2.out _ src).mono ?_); rintro e w2 ⟨NA, NC, rfl, hN, hb⟩; haveI : Stp _ w2 := ⟨hb⟩; clear hb hN))
          go_ret
          exact ⟨by rw [HE.out]; rfl, blw⟩
      · have HE0 := hide (show togetherB l = false by rw [HE.out, decide_eq_false (show ¬ (0 : Int) < (l.length : Int) by omega), Bool.false_and])
        have hp0 : ¬ (0 : Int) < (l.length : Int) := by omega
        clear T1 T2
        go_wp2_with fail
        go_ret
        exact ⟨by rw [HE0.out]; rfl, blw⟩
/-- its own last proposal, in new memory -/
def RetMn (w : World) (o : Option Pp) (e : Ending) (w' : World) : Prop := ∃ y : Pp, y.br = (o.getD pq0).br ∧ e = .returned (.tuple #[y.ag, .bool o.isSome]) ∧ PpN w' w.heap.size y ∧ Below w.heap.size w w'
variable [Avoid]
set_option maxRecDepth 100000 in
set_option maxHeartbeats 4000000 in
theorem mine_s (a : Ag) (w : World) (h : a.Ok w) : Calls Tryz.prog 16 #[a.v] w (RetMn w (mineP a)) := by
  have hl := h.o.pl
  have TC := hide (fun (x : Pp) W (h : x.Ok W) => cpP_s x W h)
  have HP := hide (fun p hp => (h.o.p p hp).ok)
  haveI : Src w a.GA a.gt.length 6 (pps a.gt) := ⟨h.g.1⟩
  clear h
  go_enter Tryz.func16, Tryz.ntmps16
  go_wp2_with fail
  go_loopw [9] (fun j wr => ∃ m : Nat, j = .int .i64 m ∧ m ≤ a.gt.length ∧ (∀ p ∈ a.gt.take m, p.sv ≠ a.sv) ∧ BoxAt wr w.heap.size a.cs 38 ∧ BoxAt wr (w.heap.size + 1) #[.int .i64 0, .int .u64 0, .int .u64 0, .slice none 0 0, .slice none 0 0, .slice none 0 0] 41 ∧ Below w.heap.size w wr) (fun j _ => a.gt.length - (intOf j).toNat)
  case atStart => exact ⟨0, rfl, Nat.zero_le _, (fun p hp => by simp at hp), inferInstance, inferInstance, blw⟩
  case round =>
    obtain ⟨m, rfl, hm, hf, hb1, hb2, hB⟩ := hrel
    haveI := hb1
    haveI := hb2
    haveI : Stp w wr := ⟨hB⟩
    have z2 := hb2.lt
    haveI : LtN w.heap.size wr.heap.size := ⟨by omega⟩
    haveI : LtN (w.heap.size + 1) wr.heap.size := ⟨z2⟩
    have HF := hide hf
    clear hf hB hb1 hb2
    by_cases hlt : m < a.gt.length
    · obtain ⟨b, off, p, hA, hb, hp, g0, g1, g2, g3, g4, g5⟩ := (src (w := w) (W := wr) (A := a.GA) (n := a.gt.length) (k := 6) (xs := pps a.gt)).at6 hlt
      haveI : InW b wr := ⟨hb⟩
      have HPP := hide hp
      have HPO := hide (HP.out p (List.mem_of_getElem? hp))
      have i0 : (0 : Int) ≤ (m : Int) := by omega
      have i1 : (m : Int) < (a.gt.length : Int) := by omega
      clear hp
      cases hq : eqP p.n p.i a.n a.i
      · have HN := hide (show p.sv ≠ a.sv from fun e => by
          have e1 : p.n = a.n := congrArg Prod.fst e
          have e2 : p.i = a.i := congrArg Prod.snd e
          simp [eqP, e1, e2] at hq)
        go_wp2_with fail
        clear hA
        go_wp2
        go_roundw
        case rel => exact ⟨m + 1, by go_num, by omega, (fun q hq => by
          rw [take_succ_of HPP.out] at hq
          rcases List.mem_append.1 hq with hq | hq
          · exact HF.out q hq
          · rw [List.mem_singleton.1 hq]; exact HN.out), inferInstance, inferInstance, blw⟩
        case measure => simp [intOf]; omega
      · have hsv : p.sv = a.sv := by
          simp [eqP] at hq
          exact Prod.ext hq.1 hq.2
        have HE := hide (show mineP a = some p by
          unfold mineP
          rw [List.find?_eq_some_iff_getElem]
          have hk := (List.getElem?_eq_some_iff.1 HPP.out)
          refine ⟨by simpa using hsv, m, hk.1, hk.2, fun j hj => ?_⟩
          have := HF.out (a.gt[j]'(by omega)) (List.mem_take_iff_getElem.2 ⟨j, by omega, rfl⟩)
          simpa using this)
        have TC := hide (fun W (h : p.Ok W) => (TC.out p W h : Calls Tryz.prog 53 #[.agg #[.int .i64 p.n, .int .u64 p.i, .int .u64 p.rd, .slice p.SA p.ss.length p.sc, .slice p.CA p.cs.length p.cc, .slice p.UA p.us.length p.uc]] W (RetPk W p)))
        clear hsv
        go_wp2_with fail
        (with_reducible refine (TC.out _ (HPO.out.step blw)).mono ?_)
        rintro e w5 ⟨y, hy, rfl, hn, hb5⟩
        haveI : Stp _ w5 := ⟨hb5⟩
        have z5 := (blw (a := wr) (W := w5)).size
        haveI : LtN (w.heap.size + 1) w5.heap.size := ⟨by omega⟩
        have HYE := hide hy
        have HYO := hide (And.intro (RO.new (C := [w.heap.size + 1]) hn.ok.s hn.s (fun i hi => by rw [List.mem_singleton.1 hi]; exact Nat.lt_of_lt_of_le z2 (blw (a := wr)).size)) (And.intro (RO.new (C := [w.heap.size + 1]) hn.ok.c hn.c (fun i hi => by rw [List.mem_singleton.1 hi]; exact Nat.lt_of_lt_of_le z2 (blw (a := wr)).size)) (RO.new (C := [w.heap.size + 1]) hn.ok.u hn.u (fun i hi => by rw [List.mem_singleton.1 hi]; exact Nat.lt_of_lt_of_le z2 (blw (a := wr)).size))))
        have HYL := hide (And.intro hn.ok.sl (And.intro hn.ok.cl hn.ok.ul))
        have HYN := hide (show NewA w.heap.size y.SA ∧ NewA w.heap.size y.CA ∧ NewA w.heap.size y.UA from ⟨hn.s.mono (blw (a := w)).size, hn.c.mono (blw (a := w)).size, hn.u.mono (blw (a := w)).size⟩)
        clear hn hy hb5
        go_wp2
        refine bodyPost_ret (v := .tuple #[.agg #[.int .i64 y.n, .int .u64 y.i, .int .u64 y.rd, .slice y.SA y.ss.length y.sc, .slice y.CA y.cs.length y.cc, .slice y.UA y.us.length y.uc], .bool true]) (by simp [results, Tryz.results16, go_sem]) rfl ?_
        exact ⟨y, by rw [HE.out]; exact HYE.out, by rw [HE.out]; rfl, ⟨⟨HYO.out.1.tc.1, HYL.out.1, HYO.out.2.1.tc.1, HYL.out.2.1, HYO.out.2.2.tc.1, HYL.out.2.2⟩, HYN.out.1, HYN.out.2.1, HYN.out.2.2⟩, blw⟩
    · obtain rfl : m = a.gt.length := by omega
      have HE := hide (show mineP a = none from List.find?_eq_none.2 (fun q hq => by
        have := HF.out q (by rw [List.take_length]; exact hq)
        simpa using this))
      go_wp2
      refine bodyPost_ret (v := .tuple #[.agg #[.int .i64 0, .int .u64 0, .int .u64 0, .slice none 0 0, .slice none 0 0, .slice none 0 0], .bool false]) (by simp [results, Tryz.results16, go_sem]) rfl ?_
      exact ⟨pq0, by rw [HE.out]; rfl, by rw [HE.out]; rfl, ⟨⟨Reads.none_, by simp, Reads.none_, by simp, Reads.none_, by simp⟩, (fun a h => by cases h), (fun a h => by cases h), (fun a h => by cases h)⟩, blw⟩
end Go.Proofs.YtkglclekieckoaaGreat

namespace Go.Proofs.YtkglclekieckoaaGreat
set_option linter.unusedSimpArgs false
set_option linter.unusedVariables false
set_option linter.unusedSectionVars false
open Go.RowKit

theorem wp_scope_again {P : Program} {a : Act} {w : World} {Q : Exit → Act → World → Prop} {rest : Code} (l : Nat) (J : Act → World → Prop) (μ : Act → World → Nat) (h0 : J a w)
    (pass : ∀ a w, J a w → rest.wp P (Exit.jump l (fun a' w' => J a' w' ∧ μ a' w' < μ a w) Q) a w) : (Code.scope ((Code.label l).seq rest)).wp P Q a w := by
  refine wp_scope_jumps (rest := Code.skip.seq rest) l J μ (by simp [findLabel]) ?_ (fun a w h => wp_seq (wp_skip (pass a w h)))
  apply wp_seq
  apply wp_label
  refine Code.wp_mono ?_ (pass a w h0)
  intro e a' w' he
  cases e <;> first | exact he | exact ⟨he.1, he.2.1⟩
theorem chosen_pos (a b : List Pr) : decide (0 < ((chosenL a b false).length : Int)) = a.any fun c => !decide (c ∈ b) := by
  rw [Bool.eq_iff_iff, List.any_eq_true]
  simp only [decide_eq_true_eq, Bool.not_eq_true', decide_eq_false_iff_not]
  unfold chosenL
  constructor
  · intro h
    have h' : 0 < ((sortedL a).filter fun p => decide (p ∈ b) == false).length := by omega
    obtain ⟨x, hx⟩ := List.exists_mem_of_length_pos h'
    obtain ⟨h1, h2⟩ := List.mem_filter.1 hx
    exact ⟨x, mem_sortedL.1 h1, by simpa using h2⟩
  · rintro ⟨x, h1, h2⟩
    have : x ∈ ((sortedL a).filter fun p => decide (p ∈ b) == false) := List.mem_filter.2 ⟨mem_sortedL.2 h1, by simpa using h2⟩
    have := List.length_pos_of_mem this
    omega
theorem find_br (L : List Pp) (s : Pr) : (L.map Pp.br).find? (fun p => decide (p.sv = s)) = (L.find? (fun p => decide (p.sv = s))).map Pp.br := by
  rw [List.find?_map]
  rfl
theorem propsG_br (L : List Pp) : ∀ ss : List Pr, propsG (L.map Pp.br) ss = (propsG L ss).map (List.map Pp.br) := by
  intro ss
  induction ss with
  | nil => rfl
  | cons s ss ih =>
    rw [propsG, propsG, find_br, ih]
    cases L.find? (fun p => decide (p.sv = s)) with
    | none => rfl
    | some p => cases propsG L ss <;> rfl
theorem propsL_br (a : Ag) : propsL a.br = (propsL a).map (List.map Pp.br) := propsG_br a.gt a.ss
theorem agreeB_br (l : List Pp) : agreeB (l.map Pp.br) = agreeB l := by
  cases l with
  | nil => rfl
  | cons x l =>
    unfold agreeB
    simp only [List.map_cons, List.length_cons, List.length_map, List.all_cons, List.all_map, List.map_map]
    rfl
theorem strange_br (l : List Pp) (td : List Pr) : strange (l.map Pp.br) td = strange l td := by
  unfold strange
  rw [List.any_map]
  rfl
theorem viewP_br (l : List Pp) : viewP (l.map Pp.br) = viewP l := by
  unfold viewP
  rw [agreeB_br]
  have e1 : clsP (l.map Pp.br) = clsP l := by unfold clsP; rw [List.flatMap_map]; rfl
  have e2 : prs (l.map Pp.br) = prs l := by unfold prs; rw [List.flatMap_map]; rfl
  rw [e1, e2]
  cases l <;> rfl
/-- what a pass wants to know -/
structure PaOk (a : Ag) (t : Tu) : Prop where
  inv : a.br.Inv
  tog : togetherB a.ss = true
  tl : t.ts.length ≤ 400
theorem rise_len : ∀ (k : Nat) (L : List Pp), riseP L → (∀ p ∈ L, 1 ≤ p.n ∧ p.n ≤ (k : Int)) → L.length ≤ k := by
  intro k
  induction k with
  | zero =>
    intro L _ h
    cases L with
    | nil => simp
    | cons x l => have := h x (by simp); omega
  | succ k ih =>
    intro L hr h
    rcases List.eq_nil_or_concat L with rfl | ⟨M, q, rfl⟩
    · simp
    · rw [List.concat_eq_append] at hr h ⊢
      have hr' := List.pairwise_append.1 hr
      have := ih M hr'.1 (fun p hp => by
        have h1 := h p (by simp [hp])
        have h2 := h q (by simp)
        have h3 := hr'.2.2 p hp q (by simp)
        exact ⟨h1.1, by omega⟩)
      simp; omega
theorem PaOk.rise {a : Ag} {t : Tu} (h : PaOk a t) : riseP a.gt := by
  have : (a.gt.map Pp.br).Pairwise (fun x y => x.n < y.n) := h.inv.ri
  rw [List.pairwise_map] at this
  exact this
theorem PaOk.may {a : Ag} {t : Tu} (h : PaOk a t) : ∀ p ∈ a.gt, p.mayB = true := fun p hp => h.inv.mb p.br (List.mem_map.2 ⟨p, hp, rfl⟩)
theorem PaOk.gl {a : Ag} {t : Tu} (h : PaOk a t) : a.gt.length ≤ 4 := rise_len 4 a.gt h.rise (fun p hp => by
  have hm := h.may p hp
  obtain ⟨_, _, h3, _, h5, _⟩ := mayB_facts hm
  have h6 := mayB_low hm p.sv h5
  have h7 := setB_may h3 p.sv h5
  unfold Go.Proofs.YtkglclekieckoaaGreat.mayB at h7
  exact ⟨(of_decide_eq_true h7).1, h6⟩)
theorem PaOk.cs {a : Ag} {t : Tu} (h : PaOk a t) : ∀ p ∈ a.gt, p.cs.length ≤ 6 := fun p hp => (mayB_facts (h.may p hp)).2.2.2.2.2.2.1
theorem PaOk.ss {a : Ag} {t : Tu} (h : PaOk a t) : a.ss.length ≤ 4 := ((together_iff _).1 h.tog).2.2.1
theorem PaOk.next {a : Ag} {t : Tu} (h : PaOk a t) {a' : Ag} {t' : Tu} (ha : a'.br = (agree1 a.br t.br).1.1) (ht : t'.br = (agree1 a.br t.br).1.2) (h2 : (agree1 a.br t.br).2 = true) : a'.br.Inv ∧ togetherB a'.ss = true ∧ t'.ts.length ≤ t.ts.length + 6 := by
  have hi := agree1_inv h.inv h.tog t.br
  refine ⟨by rw [ha]; exact hi.1, ?_, ?_⟩
  · have : a'.br.ss = a'.ss := rfl
    rw [← this, ha]; exact hi.2
  · have e1 : t'.ts.length = t'.br.ts.length := by simp [Tu.br]
    have e2 : t.ts.length = t.br.ts.length := by simp [Tu.br]
    rw [e1, ht, e2]
    have hg := agree1_gone a.br t.br
    generalize agree1 a.br t.br = r at h2 hg
    cases hg with
    | still => cases h2
    | none => cases h2
    | made => cases h2
    | more =>
      show (proposeP a.br t.br (upU a.br.rd)).2.ts.length ≤ _
      by_cases hb : upU a.br.rd = 0 ∨ upU a.br.rd = um ∨ (raiseR (takenR a.br.cl)).2 = false
      · rw [propose_no hb]; exact Nat.le_add_right _ _
      · rw [propose_yes hb]
        unfold sentT
        simp only [List.length_append, List.length_map]
        have h3 : (thereL (toldA (begunA a.br (upU a.br.rd))).cl).length ≤ 6 := Nat.le_trans (List.length_filter_le _ _) (raise_len a.br.cl)
        omega
theorem propose_moves {a : Ag} (t : Tu) (h0 : 0 ≤ a.rd) (h1 : a.rd ≤ um) : (proposeP a t (upU a.rd)).1.sp = true ∨ (proposeP a t (upU a.rd)).1.rd ≠ a.rd := by
  by_cases hb : upU a.rd = 0 ∨ upU a.rd = um ∨ (raiseR (takenR a.cl)).2 = false
  · rw [propose_no hb]; exact .inl rfl
  · rw [propose_yes hb]
    simp only [not_or] at hb
    right
    show upU a.rd ≠ a.rd
    have := hb.1
    unfold upU at this ⊢
    split
    · rename_i e; rw [if_pos e] at this; exact absurd rfl this
    · omega
theorem wrap_up {n : Int} (h0 : 0 ≤ n) (h1 : n ≤ um) : IntKind.u64.wrap (n + 1) = upU n := by
  have e : IntKind.u64.wrap (n + 1) = (n + 1) % 18446744073709551616 := by simp [IntKind.wrap, IntKind.signed, IntKind.bits]
  rw [e]
  unfold upU um at *
  split
  · rename_i e; subst e; decide
  · omega
theorem strange_of {l : List Pp} {p : Pp} {td : List Pr} (hp : p ∈ l) (h : (p.cs.any fun c => !decide (c ∈ td)) = true) : strange l td = true := List.any_eq_true.2 ⟨p, hp, h⟩
end Go.Proofs.YtkglclekieckoaaGreat

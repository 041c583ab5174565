/-
  RoundSettles in plain words: one after the other is renewed.
-/
import Derived.Test.YtkglclekieckoaaGreatRsD
import Derived.Test.YtkglclekieckoaaGreatCf
import Derived.Test.YtkglclekieckoaaGreatMn6a
import Derived.Test.YtkglclekieckoaaGreatRsE
import Derived.Test.YtkglclekieckoaaGreatAw8
import Derived.Test.YtkglclekieckoaaGreatLOn
import Derived.Test.YtkglclekieckoaaGreatMn6
import Derived.Test.YtkglclekieckoaaGreatMn6c
import Derived.Test.YtkglclekieckoaaGreatInts
namespace Go.Proofs.YtkglclekieckoaaGreat
set_option linter.unusedSimpArgs false
set_option linter.unusedVariables false
set_option linter.unusedSectionVars false
open Go.RowKit

/-- the first i of those that are on are renewed -/
structure Rl (c : Cfg) (M0 : Ms) (i : Nat) (R : Nat → Int) (own : Nat → Pp) (M : Ms) (Y : Wy) : Prop where
  bs : BndS (200 + 2 * i) M.aa M.cc M.S
  sl : M.S.length ≤ 100 + i
  vl : M.V.length ≤ 100 + i
  wl : Y.l.length ≤ 4 * i
  le : i ≤ c.O.length
  iq : M.inc = c.inc
  kp : ∀ k, k ∉ c.O.take i → M.aa k = M0.aa k
  rn : ∀ k ∈ c.O.take i, Rnw c k (M0.aa k).br (R k) (M.aa k).br (own k)
  qs : ∀ k ∈ c.O, wayQ Y.l k = ((c.O.take i).filter fun s => decide (s ≠ k)).map own
theorem Rl.step {c : Cfg} {M0 : Ms} {i : Nat} {R : Nat → Int} {own : Nat → Pp} {M : Ms} {Y Y' : Wy} (hc : c.Ok) (h : Rl c M0 i R own M Y) (ho : OneS M.aa M.inc M.cc M.S M.V) {k : Nat} (hk : c.O[i]? = some k) {fc : Nat → Bool} (hcl : c.CL = fun k => livesL (clL (fun _ => 0) fc k 6))
    {C' : List Nat} {SA' : Option Addr} {sc' : Nat} {VA' : Option Addr} {vc' : Nat} {b : Ag} {u : Tu} (hT : TOk (M.S.map Pp.br) (ofN M.cc) k (M.aa k).br b.br u.br) (hmb : MBx M.aa M.cc M.S b u) (hb : b.br = (renewP (M.aa k).br c.SL (clL M.cc fc k 6)).1) (hu : u.br = (renewP (M.aa k).br c.SL (clL M.cc fc k 6)).2)
    (hY : Y'.l = (if u.sd = true then Y.l ++ sentW c.O k u.pp else Y.l)) : ∃ R' own', Rl c M0 (i + 1) R' own' (M.turned C' SA' sc' VA' vc' k b u) Y' := by
  obtain ⟨hi, hki⟩ := List.getElem?_eq_some_iff.1 hk
  have hkO : k ∈ c.O := List.mem_of_getElem? hk
  have hk4 := hc.lt k hkO
  have hlen := hc.len
  have htk : c.O.take (i + 1) = c.O.take i ++ [k] := by rw [List.take_add_one, hk]; rfl
  have hnd : k ∉ c.O.take i := fun hm => by
    have h1 := hc.nd
    rw [← List.take_append_drop i c.O, List.nodup_append] at h1
    refine h1.2.2 k hm k ?_ rfl
    rw [List.drop_eq_getElem_cons hi, hki]
    exact List.mem_cons_self
  have hs := ho.srv k hk4
  have hsv : (M.aa k).br.sv = c.life k := by rw [hs.sv, h.iq]; rfl
  have hsn : ∀ g ∈ M.S.map Pp.br, g.rd ≤ 200 + 2 * (i : Int) := fun g hg => by
    obtain ⟨g', hg', rfl⟩ := List.mem_map.1 hg
    exact h.bs.sn g' hg'
  have hcli : ∀ g ∈ (M.aa k).br.gt, Cli g.cs := fun g hg q hq => by
    have hgS := hs.gt g hg
    obtain ⟨_, _, _, _, _, o6⟩ := ho.st.ok g hgS
    obtain ⟨g', hg', rfl⟩ := List.mem_map.1 hgS
    obtain ⟨n1, n2⟩ := h.bs.cn g' hg' q hq
    exact ⟨n1, n2, o6 q hq⟩
  have hrd : (M.aa k).br.rd ≤ 200 + 2 * (i : Int) := h.bs.rd k hk4
  have hml : mostL { (M.aa k).br with ss := c.SL, cl := clL M.cc fc k 6 } ≤ 200 + 2 * (i : Int) := mostL_le (a := { (M.aa k).br with ss := c.SL, cl := clL M.cc fc k 6 }) (clL_may _ _ _) hrd (fun g hg => hsn g (hs.gt g hg)) (fun x hx => (clL_of hx).2.2.2.2.2.2) (by omega)
  obtain ⟨n, hn1, hn2, _, hgo⟩ := renew_out hc hkO hs.inv (h.bs.sp k hk4) hsv hcli (cl := clL M.cc fc k 6) (by rw [hcl]; exact clL_lives _ _ _ _) (clL_gone _ _ _) (clL_may _ _ _) (clL_ok hs.cr _ _) (fun x hx => by
    have : ofN M.cc x.n ≤ 200 + 2 * (i : Int) := h.bs.ck _
    rw [clL_cid _ _ _ x hx]
    unfold um
    omega) (Int.lt_of_le_of_lt (Int.add_le_add_right hml 1) (by unfold um; omega))
  obtain ⟨hr1, hr2⟩ := hgo.rnw (a0 := (M.aa k).br) rfl hn1 hn2
  rw [← hu] at hr2
  have hsd : u.sd = true := hr2
  rw [if_pos hsd] at hY
  have hup : u.pp.br = (renewP (M.aa k).br c.SL (clL M.cc fc k 6)).2.pp := by rw [← hu]; rfl
  rw [h.kp k hnd] at hr1 hb hup
  rw [← hb, ← hup] at hr1
  have hbs : BndS (200 + 2 * (i + 1 : Nat)) (updN M.aa k b) (cidsN M.cc u.ts) (if u.sd = true then M.S ++ [u.pp] else M.S) := by
    have := h.bs.turned ho hk4 hT (hmb _ h.bs (by unfold um; omega)) (by omega)
    rw [show (200 : Int) + 2 * (i : Int) + 2 = 200 + 2 * ((i + 1 : Nat) : Int) by omega] at this
    exact this
  have hwl := h.wl
  have hsl := h.sl
  have hvl := h.vl
  have hl4 := sentW_len c.O k u.pp
  refine ⟨fun j => if j = k then n else R j, fun j => if j = k then u.pp.br else own j, hbs, by show (if u.sd = true then M.S ++ [u.pp] else M.S).length ≤ _; split <;> (try rw [List.length_append, List.length_singleton]) <;> omega, by show (if u.md = true then M.V ++ [u.vw] else M.V).length ≤ _; split <;> (try rw [List.length_append, List.length_singleton]) <;> omega, by rw [hY, List.length_append]; omega, by omega, h.iq, fun j hj => ?_, fun j hj => ?_, fun j hj => ?_⟩
  · rw [htk, List.mem_append, not_or, List.mem_singleton] at hj
    exact (updN_ne _ _ hj.2).trans (h.kp j hj.1)
  · rw [htk] at hj
    show Rnw c j (M0.aa j).br (if j = k then n else R j) (updN M.aa k b j).br (if j = k then u.pp.br else own j)
    by_cases e : j = k
    · subst e
      rw [if_pos rfl, if_pos rfl, updN_at]
      exact hr1
    · rw [if_neg e, if_neg e, updN_ne _ _ e]
      rcases List.mem_append.1 hj with hj | hj
      · exact h.rn j hj
      · exact absurd (List.mem_singleton.1 hj) e
  · rw [hY, wayQ_app, h.qs j hj, wayQ_sent hc.nd k u.pp hj, htk, List.filter_append, List.map_append]
    congr 1
    · refine List.map_congr_left fun s hs => ?_
      have : s ≠ k := fun e => hnd (by rw [← e]; exact (List.mem_filter.1 hs).1)
      exact (if_neg this).symm
    · by_cases e : j = k
      · subst e
        rw [if_pos rfl]
        simp
      · rw [if_neg e]
        have : k ≠ j := Ne.symm e
        simp [this]
theorem max_of (R : Nat → Int) : ∀ O : List Nat, O ≠ [] → ∃ X, (∀ k ∈ O, R k ≤ X) ∧ ∃ m ∈ O, R m = X
  | [], h => absurd rfl h
  | [k], _ => ⟨R k, fun j hj => by rw [List.mem_singleton.1 hj]; exact Int.le_refl _, k, List.mem_cons_self, rfl⟩
  | k :: l :: O, _ => by
    obtain ⟨X, h1, m, h2, h3⟩ := max_of R (l :: O) (by simp)
    by_cases e : R k ≤ X
    · exact ⟨X, fun j hj => by
        rcases List.mem_cons.1 hj with rfl | hj
        · exact e
        · exact h1 j hj, m, List.mem_cons_of_mem _ h2, h3⟩
    · exact ⟨R k, fun j hj => by
        rcases List.mem_cons.1 hj with rfl | hj
        · exact Int.le_refl _
        · have := h1 j hj; omega, k, List.mem_cons_self, rfl⟩
/-- all are renewed -/
theorem Rl.toDl {c : Cfg} {M0 : Ms} {R : Nat → Int} {own : Nat → Pp} {M : Ms} {Y : Wy} (hc : c.Ok) (h : Rl c M0 c.O.length R own M Y) (ho : OneS M0.aa M0.inc M0.cc M0.S M0.V) (hi : M0.inc = c.inc) : ∃ X, Dl c R X 0 M Y := by
  have hlen := hc.len
  have hsl := h.sl
  have hvl := h.vl
  have hwl := h.wl
  have hrn := h.rn
  have hqs := h.qs
  rw [List.take_length] at hrn hqs
  have hq4 : ∀ k ∈ c.O, (wayQ Y.l k).length ≤ 4 := fun k hk => by
    rw [hqs k hk, List.length_map]
    exact Nat.le_trans (List.length_filter_le _ _) hlen
  have hbs : BndS (300 + 2 * ((0 : Nat) : Int)) M.aa M.cc M.S := h.bs.mono (by omega)
  by_cases e : c.O = []
  · exact ⟨0, hbs, by omega, by omega, by omega, .inl e, by
      have := pot_start (R := R) (M := 0) (A := fun k => (M.aa k).br) (Q := wayQ Y.l) hc hq4
      omega⟩
  · obtain ⟨X, hX, hm⟩ := max_of R c.O e
    refine ⟨X, hbs, by omega, by omega, by omega, .inr ⟨own, Stl.start (A0 := fun k => (M0.aa k).br) hrn hX hm (fun k hk g hg s hs e => ?_) (fun k hk g hg s hs e => ?_) hqs hc.nd⟩, by
      have := pot_start (R := R) (M := X) (A := fun k => (M.aa k).br) (Q := wayQ Y.l) hc hq4
      omega⟩
    · have h1 := (ho.srv k (hc.lt k hk)).gt g hg
      have h2 := ho.srv s (hc.lt s hs)
      refine h2.ub g h1 (e.trans ?_)
      rw [h2.sv, hi]
      rfl
    · have h1 := (ho.srv k (hc.lt k hk)).gt g hg
      have h2 := (ho.srv s (hc.lt s hs)).lf g h1 e
      rw [hi] at h2
      exact h2
end Go.Proofs.YtkglclekieckoaaGreat

namespace Go.Proofs.YtkglclekieckoaaGreat
set_option linter.unusedSimpArgs false
set_option linter.unusedVariables false
set_option linter.unusedSectionVars false
open Go.RowKit

set_option maxRecDepth 100000 in
set_option maxHeartbeats 8000000 in
theorem rs_15 (Q : Exit → Act → World → Prop) (W : World) (T : Array Value) (hz : T.size = 178) 
    (hq : ∀ T' : Array Value, T'.size = 178 → (∀ j ∈ [1, 2, 3, 9, 11], T'[j]? = T[j]?) → T'[13]? = some (.slice none 0 0) → Q .normal ⟨T', []⟩ W) :
    Code.wp Tryz.prog (cdP [true, true, true, true, true, true, false] (Tryz.f6.body.getD .skip)) Q ⟨T, []⟩ W := by
  obtain ⟨f, hf, hT'⟩ := frameRs hz
  have HQ := hide hq
  subst hT'
  clear hq hz hf 
  conv => arg 2; dsimp only [cdP, Tryz.f6, Option.getD]
  go_wp2_with fail
  exact HQ.out _ (by rfl) (by intro j hj; simp at hj; rcases hj with rfl | rfl | rfl | rfl | rfl <;> first | rfl) (by rfl)
set_option maxRecDepth 100000 in
set_option maxHeartbeats 8000000 in
theorem rs_16 (Q : Exit → Act → World → Prop) (W : World) (T : Array Value) (hz : T.size = 178) 
    (hq : ∀ T' : Array Value, T'.size = 178 → (∀ j ∈ [1, 2, 3, 9, 11, 13], T'[j]? = T[j]?) → T'[14]? = some (.int .i64 0) → Q .normal ⟨T', []⟩ W) :
    Code.wp Tryz.prog (cdP [true, true, true, true, true, true, true, false, false] (Tryz.f6.body.getD .skip)) Q ⟨T, []⟩ W := by
  obtain ⟨f, hf, hT'⟩ := frameRs hz
  have HQ := hide hq
  subst hT'
  clear hq hz hf 
  conv => arg 2; dsimp only [cdP, Tryz.f6, Option.getD]
  go_wp2_with fail
  exact HQ.out _ (by rfl) (by intro j hj; simp at hj; rcases hj with rfl | rfl | rfl | rfl | rfl | rfl <;> first | rfl) (by rfl)
set_option maxRecDepth 100000 in
set_option maxHeartbeats 8000000 in
theorem rs_17 (Q : Exit → Act → World → Prop) (W : World) (OA : Option Addr) (oc ln i : Nat) (T : Array Value) (hz : T.size = 178) (h11 : T[11]? = some (.slice OA ln oc)) (h14 : T[14]? = some (.int .i64 i))
    (hq : ∀ T' : Array Value, T'.size = 178 → (∀ j ∈ [1, 2, 3, 9, 11, 13, 14], T'[j]? = T[j]?) → (ln ≤ i → Q (.exit 4) ⟨T', []⟩ W) ∧ (i < ln → Q .normal ⟨T', []⟩ W)) :
    Code.wp Tryz.prog (cdP [true, true, true, true, true, true, true, false, true, false, false, false] (Tryz.f6.body.getD .skip)) Q ⟨T, []⟩ W := by
  obtain ⟨f, hf, hT'⟩ := frameRs hz
  have HQ := hide hq
  subst hT'
  have e11 := hf 11 _ h11
  have HE11 := hide e11
  have e14 := hf 14 _ h14
  have HE14 := hide e14
  rw [e11, e14]
  clear hq hz hf h11 e11 h14 e14
  conv => arg 2; dsimp only [cdP, Tryz.f6, Option.getD]
  by_cases hl : i < ln
  · have j1 : (i : Int) < (ln : Int) := by omega
    have HL := hide hl
    clear hl
    go_wp2_with fail
    exact (HQ.out _ (by rfl) (by intro j hj; simp at hj; rcases hj with rfl | rfl | rfl | rfl | rfl | rfl | rfl <;> first | rfl | exact congrArg some HE11.out.symm | exact congrArg some HE14.out.symm)).2 HL.out
  · have j1 : ¬ (i : Int) < (ln : Int) := by omega
    have HL := hide (show ln ≤ i by omega)
    clear hl
    go_wp2_with fail
    exact (HQ.out _ (by rfl) (by intro j hj; simp at hj; rcases hj with rfl | rfl | rfl | rfl | rfl | rfl | rfl <;> first | rfl | exact congrArg some HE11.out.symm | exact congrArg some HE14.out.symm)).1 HL.out
set_option maxRecDepth 100000 in
set_option maxHeartbeats 8000000 in
theorem rs_19 (Q : Exit → Act → World → Prop) (W : World) (OA : Option Addr) (oc : Nat) (O : List Nat) (i : Nat) (T : Array Value) (hz : T.size = 178) (h11 : T[11]? = some (.slice OA O.length oc)) (h14 : T[14]? = some (.int .i64 i)) (ho : Reads W W.heap.size 1 OA O.length (ics (onL O))) (hi : i < O.length)
    (hq : ∀ (T' : Array Value) (k : Nat), T'.size = 178 → (∀ j ∈ [1, 2, 3, 9, 11, 13, 14], T'[j]? = T[j]?) → O[i]? = some k → T'[15]? = some (.int .i64 k) → Q .normal ⟨T', []⟩ W) :
    Code.wp Tryz.prog (cdP [true, true, true, true, true, true, true, false, true, false, false, true, false, false, false] (Tryz.f6.body.getD .skip)) Q ⟨T, []⟩ W := by
  obtain ⟨f, hf, hT'⟩ := frameRs hz
  have HQ := hide hq
  subst hT'
  have e11 := hf 11 _ h11
  have HE11 := hide e11
  have e14 := hf 14 _ h14
  have HE14 := hide e14
  rw [e11, e14]
  clear hq hz hf h11 e11 h14 e14
  conv => arg 2; dsimp only [cdP, Tryz.f6, Option.getD]
  obtain ⟨b, off, x, hA, hb, hx, g1⟩ := Reads.atI ho hi
  obtain ⟨t, hto, rfl⟩ := onL_get hx
  subst hA
  haveI : CellAt W b (off + i) (.int .i64 t) := ⟨hb, g1⟩
  haveI : InW b W := ⟨hb⟩
  have j0 : (0 : Int) ≤ (i : Int) := by omega
  have j1 : (i : Int) < (O.length : Int) := by omega
  have HTO := hide hto
  clear ho hi hx hto g1
  go_wp2_with fail
  exact HQ.out _ t (by rfl) (by intro j hj; simp at hj; rcases hj with rfl | rfl | rfl | rfl | rfl | rfl | rfl <;> first | rfl | exact congrArg some HE11.out.symm | exact congrArg some HE14.out.symm) HTO.out (by rfl)
set_option maxRecDepth 100000 in
set_option maxHeartbeats 8000000 in
theorem rs_18 (Q : Exit → Act → World → Prop) (W : World) (i : Nat) (T : Array Value) (hz : T.size = 178) (h14 : T[14]? = some (.int .i64 i)) (hm : i < 200)
    (hq : ∀ T' : Array Value, T'.size = 178 → (∀ j ∈ [1, 2, 3, 9, 11, 13], T'[j]? = T[j]?) → T'[14]? = some (.int .i64 ((i + 1 : Nat) : Int)) → Q .normal ⟨T', []⟩ W) :
    Code.wp Tryz.prog (cdP [true, true, true, true, true, true, true, false, true, false, false, true, true] (Tryz.f6.body.getD .skip)) Q ⟨T, []⟩ W := by
  obtain ⟨f, hf, hT'⟩ := frameRs hz
  have HQ := hide hq
  subst hT'
  have e14 := hf 14 _ h14
  have HE14 := hide e14
  rw [e14]
  clear hq hz hf h14 e14
  conv => arg 2; dsimp only [cdP, Tryz.f6, Option.getD]
  go_wp2_with fail
  refine HQ.out _ (by rfl) (by intro j hj; simp at hj; rcases hj with rfl | rfl | rfl | rfl | rfl | rfl <;> first | rfl) ?_
  have e : IntKind.i64.wrap ((i : Int) + 1) = ((i + 1 : Nat) : Int) := by
    rw [IntWalk.i64_in _ (by omega)]
    omega
  first
    | rfl
    | (rw [← e]; rfl)
end Go.Proofs.YtkglclekieckoaaGreat

namespace Go.Proofs.YtkglclekieckoaaGreat
set_option linter.unusedSimpArgs false
set_option linter.unusedVariables false
set_option linter.unusedSectionVars false
open Go.RowKit

set_option maxRecDepth 100000 in
set_option maxHeartbeats 16000000 in
set_option synthInstance.maxSize 1000 in
theorem rs_20 (Q : Exit → Act → World → Prop) (W : World) (n : Nat) (C E : List Nat) (aa : Nat → Ag) (inc cc : Nat → Int) (SA : Option Addr) (sc : Nat) (S : List Pp) (VA : Option Addr) (vc : Nat) (V : List Vw) (sset scl : Int) (who : Nat) (ss : List Pr) (cl : List Cl) (T : Array Value) (hz : T.size = 178)
    (h1 : T[1]? = some (.int .i64 sset)) (h2 : T[2]? = some (.int .i64 scl)) (h9 : T[9]? = some (.pointer (some ⟨n, 0, none⟩))) (h15 : T[15]? = some (.int .i64 who))
    (hM : MWE W C E n aa inc cc SA sc S VA vc V) (hO : OneS aa inc cc S V) (hw : who < 4) (hss : ss = svL inc (bitQ sset) who 4) (hcl : cl = clL cc (bitQ scl) who 6)
    (hq : ∀ (T' : Array Value) (W' : World) (n16 n17 : Nat) (b : Ag) (u : Tu), T'.size = 178 → (∀ j ∈ [1, 2, 3, 9, 11, 13, 14, 15], T'[j]? = T[j]?) → T'[16]? = some (.pointer (some ⟨n16, 0, none⟩)) → T'[17]? = some (.pointer (some ⟨n17, 0, none⟩)) → BoxAt W' n16 b.cs 38 → BoxAt W' n17 u.cs 43 → TOk (S.map Pp.br) (ofN cc) who (aa who).br b.br u.br → MBx aa cc S b u → b.br = (renewP (aa who).br ss cl).1 → u.br = (renewP (aa who).br ss cl).2 → @Ag.Ok (avo (C ++ E)) W' b → @Tu.Ok (avo (C ++ E)) W' u → Below W.heap.size W W' → (W.heap.size ≤ n17) → Q .normal ⟨T', []⟩ W') :
    Code.wp Tryz.prog (cdP [true, true, true, true, true, true, true, false, true, false, false, true, false, false, true, false] (Tryz.f6.body.getD .skip)) Q ⟨T, []⟩ W := by
  obtain ⟨f, hf, hT⟩ := frameRs hz
  have HQ := hide hq
  subst hT
  have e1 := hf 1 _ h1
  have e2 := hf 2 _ h2
  have e9 := hf 9 _ h9
  have e15 := hf 15 _ h15
  have HE1 := hide e1
  have HE2 := hide e2
  have HE9 := hide e9
  have HE15 := hide e15
  rw [e1, e2, e9, e15]
  haveI hbn := hM.m.bx
  have hn := hbn.lt
  haveI : LtN n W.heap.size := ⟨hn⟩
  have HM := hide hM
  have HO := hide hO
  have hC : ∀ i ∈ C ++ E, i < W.heap.size := fun i hi => by
    rcases List.mem_append.1 hi with h1 | h1
    · exact hM.m.lt i h1
    · exact hM.lt i h1
  have i0 : (0 : Int) ≤ (who : Int) := by omega
  have i1 : (who : Int) < 4 := by omega
  have hl3 : ss.length ≤ 4 := by rw [hss]; exact svL_len _ _ _ _
  have hl4 : cl.length ≤ 6 := by rw [hcl]; exact clL_len _ _ _ _
  have HP4 := hide (show ∀ x ∈ cl, ClOf who cc x from fun x hx => by rw [hcl] at hx; exact clL_of hx)
  have TSV := hide (fun W' (hb : BoxAt W' n (mcs aa inc cc (.slice SA S.length sc) (.slice VA V.length vc)) 77) => (by rw [hss]; exact servers18_e n aa inc cc _ _ who sset W' hb : Calls Tryz.prog 20 #[.pointer (some ⟨n, 0, none⟩), .int .i64 who, .int .i64 sset] W' (RetSvE W' ss)))
  have TCL := hide (fun W' (hb : BoxAt W' n (mcs aa inc cc (.slice SA S.length sc) (.slice VA V.length vc)) 77) => (by rw [hcl]; exact clients18_e n aa inc cc _ _ who scl W' hb : Calls Tryz.prog 21 #[.pointer (some ⟨n, 0, none⟩), .int .i64 who, .int .i64 scl] W' (RetCqE W' cl)))
  have TRN := hide (fun (A : Option Addr) (c : Nat) (B : Option Addr) (d : Nat) W' (hb : Below W.heap.size W W') (hR : Reads W' W'.heap.size 2 A ss.length (pcs ss)) (hL : Reads W' W'.heap.size 6 B cl.length (ccs cl)) =>
    (by
      have hcl := HP4.out
      have hlt : ∀ i ∈ C ++ E, i < W'.heap.size := fun i hi => Nat.lt_of_lt_of_le (hC i hi) hb.size
      have hok : clOk cl := fun x hx => by
        obtain ⟨r1, r2, r3, r4, r5, r6, r7⟩ := hcl x hx
        have r8 := (HO.out.srv who hw).cr x.n
        have r9 : ofN cc x.n = x.cid := r6.symm
        rw [r9] at r8
        rw [r4, r7]
        exact ⟨⟨by show -9223372036854775808 ≤ x.n; omega, by show x.n ≤ 9223372036854775807; omega, by show (0 : Int) ≤ 1; decide, by show (1 : Int) ≤ 18446744073709551615; decide⟩, r8.1, r8.2, by decide, by decide⟩
      refine (renew_s (DFb (C ++ E) W.heap.size W') (aa who) A c ss B d cl W' ((HM.out.ag who hw).over (DFb.tr hb)) (DFb.lt hlt) (HO.out.srv who hw).inv hR (by omega) hL (by omega) hok).mono ?_
      rintro e w' ⟨b, u, q1, q2, q3, q4, q5, q6⟩
      have hT : TOk (S.map Pp.br) (ofN cc) who (aa who).br b.br u.br := by
        rw [q1, q2]
        exact (HO.out.srv who hw).renew HO.out.st (ss := ss) (cl := cl) (fun x hx => by
          obtain ⟨r1, r2, r3, r4, r5, r6, r7⟩ := hcl x hx
          exact ⟨r1, r2, r3, r4, r5⟩) (fun x hx => (hcl x hx).2.2.2.2.2.1) hok
      have hMB : MBx aa cc S b u := fun B hB hb => by
        rw [q1, q2]
        refine (HO.out.srv who hw).renew_mb HO.out.st (fun g hg => ?_) (hB.mb hw) hB.b0 hb (ss := ss) (cl := cl) (fun x hx => by
          obtain ⟨r1, r2, r3, r4, r5, r6, r7⟩ := hcl x hx
          exact ⟨r1, r2, r3, r4, r5⟩) (fun x hx => (hcl x hx).2.2.2.2.2.1) (fun x hx => (hcl x hx).2.2.2.2.2.2) hok
        obtain ⟨g', hg', rfl⟩ := List.mem_map.1 hg
        exact hB.sn g' hg'
      exact ⟨DFb (C ++ E) W.heap.size W', b, u, fun m cs hm hmb => ⟨DFb.ag hmb hm⟩, fun m cs hm hmb => ⟨DFb.tu hmb hm⟩, fun i hi => mem_DF.2 (.inl hi), hT, hMB, q1, q2, q3, q4, q5, q6⟩ : Calls Tryz.prog 9 #[(aa who).v, .slice A ss.length c, .agg #[.slice B cl.length d]] W' (fun e w' => ∃ (D : List Nat) (b : Ag) (u : Tu), (∀ m cs, W.heap.size ≤ m → BoxAt W' m cs 38 → InL m D) ∧ (∀ m cs, W.heap.size ≤ m → BoxAt W' m cs 43 → InL m D) ∧ (∀ i ∈ C ++ E, i ∈ D) ∧ TOk (S.map Pp.br) (ofN cc) who (aa who).br b.br u.br ∧ MBx aa cc S b u ∧ b.br = (renewP (aa who).br ss cl).1 ∧ u.br = (renewP (aa who).br ss cl).2 ∧ e = .returned (.tuple #[b.v, u.v]) ∧ @Ag.Ok (avo D) w' b ∧ @Tu.Ok (avo D) w' u ∧ Below W'.heap.size W' w')))
  clear hq h1 h2 h9 h15 hz hf e1 e2 e9 e15 hM hO hC hss hcl
  conv => arg 2; dsimp only [cdP, Tryz.f6, Option.getD]
  go_region_held3 (fun w' => (ldAg ⟨n, who * 14, none⟩).run Tryz.prog w' = .ok (.agg (aa who).cs) w') ((first | exact ldAg_many _ n aa inc cc _ _ _ who hw))
    (first
      | (go_at_call 20; (with_reducible refine (TSV.out _ ?_).mono ?_); (focus (exact inferInstance)); rintro e w3 ⟨A3, c3, rfl, ho3, hb3⟩; haveI : Stp _ w3 := ⟨hb3⟩; haveI : LtN n w3.heap.size := ⟨BoxAt.lt (n := n) (w := w3) inferInstance⟩; haveI : LeN W.heap.size w3.heap.size := ⟨(blw (a := W) (W := w3)).size⟩; (try have : LtN (W.heap.size) w3.heap.size := ⟨BoxAt.lt (n := W.heap.size) (w := w3) inferInstance⟩); (try have : LtN (W.heap.size + 1) w3.heap.size := ⟨BoxAt.lt (n := W.heap.size + 1) (w := w3) inferInstance⟩); (try have : LtN (w4.heap.size) w3.heap.size := ⟨BoxAt.lt (n := w4.heap.size) (w := w3) inferInstance⟩); (try have : LtN (w4.heap.size + 1) w3.heap.size := ⟨BoxAt.lt (n := w4.heap.size + 1) (w := w3) inferInstance⟩); have HO3 := hide ho3; clear ho3 hb3)
      | (go_at_call 21; (with_reducible refine (TCL.out _ ?_).mono ?_); (focus (exact inferInstance)); rintro e w4 ⟨A4, c4, rfl, ho4, hb4⟩; haveI : Stp _ w4 := ⟨hb4⟩; haveI : LtN n w4.heap.size := ⟨BoxAt.lt (n := n) (w := w4) inferInstance⟩; haveI : LeN W.heap.size w4.heap.size := ⟨(blw (a := W) (W := w4)).size⟩; (try have : LtN (W.heap.size) w4.heap.size := ⟨BoxAt.lt (n := W.heap.size) (w := w4) inferInstance⟩); (try have : LtN (W.heap.size + 1) w4.heap.size := ⟨BoxAt.lt (n := W.heap.size + 1) (w := w4) inferInstance⟩); (try have : LtN (w3.heap.size) w4.heap.size := ⟨BoxAt.lt (n := w3.heap.size) (w := w4) inferInstance⟩); (try have : LtN (w3.heap.size + 1) w4.heap.size := ⟨BoxAt.lt (n := w3.heap.size + 1) (w := w4) inferInstance⟩); have HO4 := hide ho4; clear ho4 hb4)
      | (go_at_call 9; (with_reducible refine (TRN.out A3 c3 A4 c4 _ ?_ ?_ ?_).mono ?_); (focus (exact blw)); (focus (exact Reads.of_own (own_tc HO3.out))); (focus (exact Reads.of_own (own_tc HO4.out))); rintro e w5 ⟨D, b, u, hD1, hD2, hD3, hT, hmb, hbr, hur, rfl, hbo, huo, hb5⟩; haveI : Stp _ w5 := ⟨hb5⟩; haveI : LtN n w5.heap.size := ⟨BoxAt.lt (n := n) (w := w5) inferInstance⟩; haveI : LeN W.heap.size w5.heap.size := ⟨(blw (a := W) (W := w5)).size⟩; (try have : LtN (W.heap.size) w5.heap.size := ⟨BoxAt.lt (n := W.heap.size) (w := w5) inferInstance⟩); (try have : LtN (W.heap.size + 1) w5.heap.size := ⟨BoxAt.lt (n := W.heap.size + 1) (w := w5) inferInstance⟩); (try have : LtN (w3.heap.size) w5.heap.size := ⟨BoxAt.lt (n := w3.heap.size) (w := w5) inferInstance⟩); (try have : LtN (w3.heap.size + 1) w5.heap.size := ⟨BoxAt.lt (n := w3.heap.size + 1) (w := w5) inferInstance⟩); (try have : LtN (w4.heap.size) w5.heap.size := ⟨BoxAt.lt (n := w4.heap.size) (w := w5) inferInstance⟩); (try have : LtN (w4.heap.size + 1) w5.heap.size := ⟨BoxAt.lt (n := w4.heap.size + 1) (w := w5) inferInstance⟩); (try have : InL (W.heap.size) D := hD1 _ _ (LeN.h) inferInstance); (try have : InL (W.heap.size) D := hD2 _ _ (LeN.h) inferInstance); (try have : InL (W.heap.size + 1) D := hD1 _ _ (LeN.h) inferInstance); (try have : InL (W.heap.size + 1) D := hD2 _ _ (LeN.h) inferInstance); (try have : InL (w3.heap.size) D := hD1 _ _ (LeN.h) inferInstance); (try have : InL (w3.heap.size) D := hD2 _ _ (LeN.h) inferInstance); (try have : InL (w3.heap.size + 1) D := hD1 _ _ (LeN.h) inferInstance); (try have : InL (w3.heap.size + 1) D := hD2 _ _ (LeN.h) inferInstance); (try have : InL (w4.heap.size) D := hD1 _ _ (LeN.h) inferInstance); (try have : InL (w4.heap.size) D := hD2 _ _ (LeN.h) inferInstance); (try have : InL (w4.heap.size + 1) D := hD1 _ _ (LeN.h) inferInstance); (try have : InL (w4.heap.size + 1) D := hD2 _ _ (LeN.h) inferInstance); have HT := hide hT; have HMB := hide hmb; have HBR := hide hbr; have HUR := hide hur; have HBO := hide hbo; have HUO := hide huo; have HD := hide hD3; clear hT hmb hbr hur hbo huo hb5 hD1 hD2 hD3)
      | fail)
  all_goals
    refine HQ.out _ _ _ _ b u (by rfl) (by intro j hj; simp at hj; rcases hj with rfl | rfl | rfl | rfl | rfl | rfl | rfl | rfl <;> first | rfl | exact congrArg some HE9.out.symm | exact congrArg some HE1.out.symm | exact congrArg some HE2.out.symm | exact congrArg some HE15.out.symm) (by rfl) (by rfl) inferInstance inferInstance HT.out HMB.out HBR.out HUR.out ?_ ?_ blw ?_
    · exact HBO.out.over ((Trc.h (C := D) (a := w5)).re (fun i hi => .inl (HD.out i hi)))
    · exact HUO.out.over ((Trc.h (C := D) (a := w5)).re (fun i hi => .inl (HD.out i hi)))
    · have hw3 := (blw (a := W) (W := w3)).size; have hw4 := (blw (a := W) (W := w4)).size; have hw5 := (blw (a := W) (W := w5)).size; omega
end Go.Proofs.YtkglclekieckoaaGreat

namespace Go.Proofs.YtkglclekieckoaaGreat
set_option linter.unusedSimpArgs false
set_option linter.unusedVariables false
set_option linter.unusedSectionVars false
open Go.RowKit

set_option maxRecDepth 100000 in
set_option maxHeartbeats 16000000 in
set_option synthInstance.maxSize 1000 in
theorem rs_t3 (Q : Exit → Act → World → Prop) (W : World) (base n : Nat) (M : Ms) (Y : Wy) (OA : Option Addr) (oc : Nat) (O : List Nat) (who n21 n22 : Nat) (b : Ag) (u : Tu) (T : Array Value) (hz : T.size = 178)
    (h9 : T[9]? = some (.pointer (some ⟨n, 0, none⟩))) (h11 : T[11]? = some (.slice OA O.length oc)) (h13 : T[13]? = some Y.v) (h15 : T[15]? = some (.int .i64 who)) (h16 : T[16]? = some (.pointer (some ⟨n21, 0, none⟩))) (h17 : T[17]? = some (.pointer (some ⟨n22, 0, none⟩)))
    (hS : WS base W n M Y OA O) (hb21 : BoxAt W n21 b.cs 38) (hb22 : BoxAt W n22 u.cs 43) (hn22C : n22 ∉ M.C) (hw : who < 4) (h4 : O.length ≤ 4) (hls : M.S.length ≤ 1000) (hlv : M.V.length ≤ 1000) (hlw : Y.l.length ≤ 1000)
    (hT : TOk (M.S.map Pp.br) (ofN M.cc) who (M.aa who).br b.br u.br) (hbo : @Ag.Ok (avo (M.C ++ Y.E)) W b) (huo : @Tu.Ok (avo (M.C ++ Y.E)) W u)
    (hq : ∀ (T' : Array Value) (W' : World) (C' : List Nat) (SA' : Option Addr) (sc' : Nat) (VA' : Option Addr) (vc' : Nat) (Y' : Wy), T'.size = 178 → (∀ j ∈ [1, 2, 3, 9, 11, 14], T'[j]? = T[j]?) → T'[13]? = some Y'.v → Y'.l = (if u.sd = true then Y.l ++ sentW O who u.pp else Y.l) → WS base W' n (M.turned C' SA' sc' VA' vc' who b u) Y' OA O → Below base W W' → Q .normal ⟨T', []⟩ W') :
    Code.wp Tryz.prog (cdP [true, true, true, true, true, true, true, false, true, false, false, true, false, false, true, true] (Tryz.f6.body.getD .skip)) Q ⟨T, []⟩ W := by
  obtain ⟨f, hf, hT'⟩ := frameRs hz
  have HQ := hide hq
  subst hT'
  obtain ⟨YA, yc, l⟩ := Y
  have e13 := hf 13 (.slice YA l.length yc) h13
  have e9 := hf 9 _ h9
  have HE9 := hide e9
  have e11 := hf 11 _ h11
  have HE11 := hide e11
  have e15 := hf 15 _ h15
  have HE15 := hide e15
  have e16 := hf 16 _ h16
  have HE16 := hide e16
  have e17 := hf 17 _ h17
  have HE17 := hide e17
  rw [e13, e9, e11, e15, e16, e17]
  haveI hbn := hS.m.m.bx
  have hn := hbn.lt
  haveI hbx21 := hb21
  haveI hbx22 := hb22
  have hC1 : ∀ {D : Avoid} , True := trivial
  have t1 : Tr (M.C ++ (⟨YA, yc, l⟩ : Wy).E) M.C W W := (Tr.refl _ _).re fun i hi => .inl (List.mem_append_left _ hi)
  have TT := hide (turned18_s n M.C M.aa M.inc M.cc M.SA M.sc M.S M.VA M.vc M.V (who) b u W hS.m.m hw (hbo.over t1) (huo.over t1) (M.S.map Pp.br) hT hls hlv (hS.o.one hw hT))
  have HS := hide hS
  have HBO := hide hbo
  have HUO := hide huo
  have HT := hide hT
  have HW := hide hw
  have HLW := hide hlw
  have H4 := hide h4
  clear hq h13 e13 h9 e9 h11 e11 h15 e15 h16 e16 h17 e17 hz hf hS hb21 hb22 hls hlv hbo huo hT t1 hC1 h4 hlw
  conv => arg 2; dsimp only [cdP, Tryz.f6, Option.getD]
  go_wp2_with fail
  (with_reducible refine (TT.out).mono ?_)
  rintro e w2 ⟨C', SA', sc', VA', vc', rfl, hM, htr⟩
  have hws : WS base w2 n (M.turned C' SA' sc' VA' vc' (who) b u) ⟨YA, yc, l⟩ OA O := HS.out.turned HW.out HT.out HBO.out HUO.out hM htr
  have hbl : Below base W w2 := htr.g.below HS.out.bl HS.out.cb
  have hcb := HS.out.cb
  haveI hbb22 : BoxAt w2 n22 u.cs 43 := (htr.box hbx22 hn22C).1
  have HWS := hide hws
  have HBL := hide hbl
  clear hM htr hws hbl TT hcb
  cases hsd : u.sd
  · have HSD := hide hsd
    go_wp2_with fail
    exact HQ.out _ _ C' SA' sc' VA' vc' ⟨YA, yc, l⟩ (by rfl) (by intro j hj; simp at hj; rcases hj with rfl | rfl | rfl | rfl | rfl | rfl <;> first | rfl  | exact congrArg some HE9.out.symm | exact congrArg some HE11.out.symm) (by rfl) (by rw [if_neg (by rw [HSD.out]; simp)]) HWS.out HBL.out
  · have HSD := hide hsd
    have TS := hide (sent18_s base YA yc l OA oc O (who) u.pp w2 HWS.out.way HWS.out.bl (HWS.out.on.less (fun i hi => List.mem_append_right _ hi)) HLW.out H4.out)
    go_wp2_with fail
    (with_reducible refine (TS.out).mono ?_)
    rintro e w3 ⟨B, d, rfl, ho3, ht3⟩
    have hws3 := HWS.out.sent (Y := ⟨YA, yc, l⟩) HSD.out ho3 ht3
    have hbl3 : Below base W w3 := HBL.out.trans (ht3.g.below HWS.out.bl (fun i hi => (HWS.out.le i hi).1))
    have HW3 := hide hws3
    have HB3 := hide hbl3
    clear ho3 ht3 hws3 hbl3 TS
    go_wp2_with fail
    exact HQ.out _ _ C' SA' sc' VA' vc' ⟨B, d, l ++ sentW O (who) u.pp⟩ (by rfl) (by intro j hj; simp at hj; rcases hj with rfl | rfl | rfl | rfl | rfl | rfl <;> first | rfl  | exact congrArg some HE9.out.symm | exact congrArg some HE11.out.symm) (by unfold Wy.v; rw [List.length_append]; rfl) (by rw [if_pos HSD.out]) HW3.out HB3.out
end Go.Proofs.YtkglclekieckoaaGreat

namespace Go.Proofs.YtkglclekieckoaaGreat
set_option linter.unusedSimpArgs false
set_option linter.unusedVariables false
set_option linter.unusedSectionVars false
open Go.RowKit

/-- at the head of the loop -/
structure Lp3 (w : World) (n : Nat) (c : Cfg) (M0 : Ms) (sets scl : Int) (PA : Option Addr) (pc : Nat) (pl : List Int) (OA : Option Addr) (oc : Nat) (i : Nat) (M : Ms) (Y : Wy) (T : Array Value) (W : World) : Prop where
  z : T.size = 178
  t1 : T[1]? = some (.int .i64 sets)
  t2 : T[2]? = some (.int .i64 scl)
  t3 : T[3]? = some (.slice PA pl.length pc)
  t9 : T[9]? = some (.pointer (some ⟨n, 0, none⟩))
  tO : T[11]? = some (.slice OA c.O.length oc)
  tW : T[13]? = some Y.v
  ws : WS w.heap.size W n M Y OA c.O
  rl : ∃ R own, Rl c M0 i R own M Y
  bl : Below w.heap.size w W
set_option maxRecDepth 100000 in
set_option maxHeartbeats 8000000 in
/-- one round -/
theorem rs_round3 (Q : Exit → Act → World → Prop) (w : World) (n : Nat) (c : Cfg) (hc : c.Ok) (M0 : Ms) (sets scl : Int) (hss : ∀ k ∈ c.O, c.SL = svL c.inc (bitQ sets) k 4) (hcl : c.CL = fun k => livesL (clL (fun _ => 0) (bitQ scl) k 6)) (PA : Option Addr) (pc : Nat) (pl : List Int) (OA : Option Addr) (oc : Nat) (i : Nat) (M : Ms) (Y : Wy) (T : Array Value) (W : World)
    (h : Lp3 w n c M0 sets scl PA pc pl OA oc i M Y T W) (h14 : T[14]? = some (.int .i64 i))
    (hq : ∀ (T' : Array Value) (W' : World) (M' : Ms) (Y' : Wy), i < c.O.length → Lp3 w n c M0 sets scl PA pc pl OA oc (i + 1) M' Y' T' W' → T'[14]? = some (.int .i64 ((i + 1 : Nat) : Int)) → Q .normal ⟨T', []⟩ W')
    (he : ∀ T' : Array Value, i = c.O.length → Lp3 w n c M0 sets scl PA pc pl OA oc i M Y T' W → Q (.exit 4) ⟨T', []⟩ W) :
    Code.wp Tryz.prog (cdP [true, true, true, true, true, true, true, false, true, false, false] (Tryz.f6.body.getD .skip)) Q ⟨T, []⟩ W := by
  obtain ⟨z, t1, t2, t3, t9, tO, tW, ws, ⟨R, own, rl⟩, bl⟩ := h
  have hle := rl.le
  have hlen := hc.len
  refine wp_cdseq [true, true, true, true, true, true, true, false, true, false, false] (by kernel_rfl) ?_
  refine rs_17 _ W OA oc c.O.length i T z tO h14 fun T1 z1 k1 => ⟨fun h0 => ?_, fun h0 => ?_⟩
  · exact he T1 (by omega) ⟨z1, (k1 1 (by simp)).trans t1, (k1 2 (by simp)).trans t2, (k1 3 (by simp)).trans t3, (k1 9 (by simp)).trans t9, (k1 11 (by simp)).trans tO, (k1 13 (by simp)).trans tW, ws, ⟨R, own, rl⟩, bl⟩
  show Code.wp Tryz.prog (cdP [true, true, true, true, true, true, true, false, true, false, false, true] (Tryz.f6.body.getD .skip)) Q ⟨T1, []⟩ W
  refine wp_cdseq [true, true, true, true, true, true, true, false, true, false, false, true] (by kernel_rfl) ?_
  refine wp_cdblock 5 [true, true, true, true, true, true, true, false, true, false, false, true, false] (by kernel_rfl) ?_
  refine wp_cdseq [true, true, true, true, true, true, true, false, true, false, false, true, false, false] (by kernel_rfl) ?_
  refine rs_19 _ W OA oc c.O i T1 z1 ((k1 11 (by simp)).trans tO) ((k1 14 (by simp)).trans h14) ws.on.1 h0 fun T2 k z2 k2 hk e15 => ?_
  show Code.wp Tryz.prog (cdP [true, true, true, true, true, true, true, false, true, false, false, true, false, false, true] (Tryz.f6.body.getD .skip)) _ ⟨T2, []⟩ W
  refine wp_cdseq [true, true, true, true, true, true, true, false, true, false, false, true, false, false, true] (by kernel_rfl) ?_
  have hkO : k ∈ c.O := List.mem_of_getElem? hk
  have hk4 := hc.lt k hkO
  have f2 : ∀ j ∈ [1, 2, 3, 9, 11, 13, 14], T2[j]? = T[j]? := fun j hj => (k2 j hj).trans (k1 j hj)
  refine rs_20 _ W n M.C Y.E M.aa M.inc M.cc M.SA M.sc M.S M.VA M.vc M.V sets scl k c.SL (clL M.cc (bitQ scl) k 6) T2 z2 ((f2 1 (by simp)).trans t1) ((f2 2 (by simp)).trans t2) ((f2 9 (by simp)).trans t9) e15 ws.m ws.o hk4 (by rw [rl.iq]; exact hss k hkO) rfl fun T3 W3 n16 n17 b u z3 k3 e16 e17 hb16 hb17 hT hmb hbe hue hbo huo hb3 hn17 => ?_
  show Code.wp Tryz.prog (cdP [true, true, true, true, true, true, true, false, true, false, false, true, false, false, true, true] (Tryz.f6.body.getD .skip)) _ ⟨T3, []⟩ W3
  have f3 : ∀ j ∈ [1, 2, 3, 9, 11, 13, 14], T3[j]? = T[j]? := fun j hj => (k3 j (by simp at hj ⊢; omega)).trans (f2 j hj)
  have ws3 := ws.below hb3
  have hsl := rl.sl
  have hvl := rl.vl
  have hwl := rl.wl
  refine rs_t3 _ W3 w.heap.size n M Y OA oc c.O k n16 n17 b u T3 z3 ((f3 9 (by simp)).trans t9) ((f3 11 (by simp)).trans tO) ((f3 13 (by simp)).trans tW) ((k3 15 (by simp)).trans e15) e16 e17 ws3 hb16 hb17 (fun hm => by have := ws.m.m.lt _ hm; omega) hk4 hlen (by omega) (by omega) (by omega) hT hbo huo fun T4 W4 C' SA' sc' VA' vc' Y' z4 k4 e13 hY ws4 hb4 => ?_
  show Code.wp Tryz.prog (cdP [true, true, true, true, true, true, true, false, true, false, false, true, true] (Tryz.f6.body.getD .skip)) Q ⟨T4, []⟩ W4
  have f4 : ∀ j ∈ [1, 2, 3, 9, 11, 14], T4[j]? = T[j]? := fun j hj => (k4 j hj).trans (f3 j (by simp at hj ⊢; omega))
  refine rs_18 _ W4 i T4 z4 ((f4 14 (by simp)).trans h14) (by omega) fun T5 z5 k5 e14 => ?_
  have rl' := rl.step (C' := C') (SA' := SA') (sc' := sc') (VA' := VA') (vc' := vc') (Y' := Y') hc ws.o hk hcl hT hmb hbe hue hY
  exact hq T5 W4 _ Y' h0 ⟨z5, (k5 1 (by simp)).trans ((f4 1 (by simp)).trans t1), (k5 2 (by simp)).trans ((f4 2 (by simp)).trans t2), (k5 3 (by simp)).trans ((f4 3 (by simp)).trans t3), (k5 9 (by simp)).trans ((f4 9 (by simp)).trans t9), (k5 11 (by simp)).trans ((f4 11 (by simp)).trans tO), (k5 13 (by simp)).trans e13, ws4, rl', (below_step bl hb3).trans hb4⟩ e14
set_option maxRecDepth 100000 in
set_option maxHeartbeats 8000000 in
theorem rs_renews (w : World) (n : Nat) (c : Cfg) (hc : c.Ok) (sets scl : Int) (hss : ∀ k ∈ c.O, c.SL = svL c.inc (bitQ sets) k 4) (hcl : c.CL = fun k => livesL (clL (fun _ => 0) (bitQ scl) k 6)) (PA : Option Addr) (pc : Nat) (pl : List Int) (OA : Option Addr) (oc : Nat) (M : Ms) (T : Array Value) (W : World) (hz : T.size = 178)
    (t1 : T[1]? = some (.int .i64 sets)) (t2 : T[2]? = some (.int .i64 scl)) (t3 : T[3]? = some (.slice PA pl.length pc)) (t9 : T[9]? = some (.pointer (some ⟨n, 0, none⟩))) (tO : T[11]? = some (.slice OA c.O.length oc))
    (hM : MW W M.C n M.aa M.inc M.cc M.SA M.sc M.S M.VA M.vc M.V) (hO : OneS M.aa M.inc M.cc M.S M.V) (hb : BndS 200 M.aa M.cc M.S) (hS : M.S.length ≤ 100) (hV : M.V.length ≤ 100) (hi : M.inc = c.inc) (hC : ∀ i ∈ M.C, w.heap.size ≤ i) (hon : RO W M.C 1 OA c.O.length (ics (onL c.O))) (hbl : Below w.heap.size w W)
    (hp : Reads w w.heap.size 1 PA pl.length (ics pl)) (hpi : ∀ x ∈ pl, -9223372036854775808 ≤ x ∧ x ≤ 9223372036854775807) (hpl : pl.length ≤ 300) :
    Code.wp Tryz.prog (cdP [true, true, true, true, true, true] (Tryz.f6.body.getD .skip)) (bodyPost Tryz.prog Tryz.f6 (RetB w true)) ⟨T, []⟩ W := by
  refine wp_cdseq [true, true, true, true, true, true] (by kernel_rfl) ?_
  refine rs_15 _ W T hz fun T1 z1 k1 e13 => ?_
  show Code.wp Tryz.prog (cdP [true, true, true, true, true, true, true] (Tryz.f6.body.getD .skip)) _ ⟨T1, []⟩ W
  refine wp_cdseq [true, true, true, true, true, true, true] (by kernel_rfl) ?_
  refine wp_cdseq [true, true, true, true, true, true, true, false] (by kernel_rfl) ?_
  refine rs_16 _ W T1 z1 fun T2 z2 k2 e14 => ?_
  show Code.wp Tryz.prog (cdP [true, true, true, true, true, true, true, false, true] (Tryz.f6.body.getD .skip)) _ ⟨T2, []⟩ W
  refine wp_cdblock 4 [true, true, true, true, true, true, true, false, true] (by kernel_rfl) ?_
  have f2 : ∀ j ∈ [1, 2, 3, 9, 11], T2[j]? = T[j]? := fun j hj => (k2 j (by simp at hj ⊢; omega)).trans (k1 j hj)
  have hws : WS w.heap.size W n M ⟨none, 0, []⟩ OA c.O := ⟨.of hM, hO, ⟨rfl, .inl ⟨rfl, rfl⟩⟩, by rw [show (⟨none, 0, []⟩ : Wy).E = [] from rfl, List.append_nil]; exact hon, (fun x hx => by cases hx), (fun x hx => by cases hx), (fun x hx => by cases hx), hC, hbl.size⟩
  have hrl : Rl c M 0 (fun _ => 0) (fun _ => default) M ⟨none, 0, []⟩ := ⟨hb.mono (by omega), hS, hV, Nat.le_refl _, Nat.zero_le _, hi, fun k _ => rfl, (fun k hk => by simp at hk), fun k hk => by simp [wayQ]⟩
  refine wp_cdloop [true, true, true, true, true, true, true, false, true, false] (by kernel_rfl) (fun a W => ∃ (i : Nat) (M' : Ms) (Y : Wy) (T : Array Value), a = ⟨T, []⟩ ∧ Lp3 w n c M sets scl PA pc pl OA oc i M' Y T W ∧ T[14]? = some (.int .i64 i)) (fun a _ => c.O.length - (intOf (a.tmps.getD 14 undef)).toNat) ?_ ?_
  · exact ⟨0, M, ⟨none, 0, []⟩, T2, rfl, ⟨z2, (f2 1 (by simp)).trans t1, (f2 2 (by simp)).trans t2, (f2 3 (by simp)).trans t3, (f2 9 (by simp)).trans t9, (f2 11 (by simp)).trans tO, (k2 13 (by simp)).trans e13, hws, ⟨_, _, hrl⟩, hbl⟩, e14⟩
  · rintro a W2 ⟨i, M2, Y2, T3, rfl, hL, h14⟩
    refine rs_round3 _ w n c hc M sets scl hss hcl PA pc pl OA oc i M2 Y2 T3 W2 hL h14 (fun T4 W4 M4 Y4 hlt hL4 h4 => ?_) (fun T4 hY hL4 => ?_)
    · refine ⟨⟨i + 1, M4, Y4, T4, rfl, hL4, h4⟩, ?_⟩
      have e1 : (T4.getD 14 undef) = .int .i64 ((i + 1 : Nat) : Int) := by rw [Array.getD_eq_getD_getElem?, h4]; rfl
      have e2 : (T3.getD 14 undef) = .int .i64 (i : Int) := by rw [Array.getD_eq_getD_getElem?, h14]; rfl
      show c.O.length - (intOf (T4.getD 14 undef)).toNat < c.O.length - (intOf (T3.getD 14 undef)).toNat
      rw [e1, e2]
      show c.O.length - (((i + 1 : Nat) : Int)).toNat < c.O.length - ((i : Nat) : Int).toNat
      omega
    · simp only [Exit.then, Exit.inBlock, if_true]
      show Code.wp Tryz.prog (cdP [true, true, true, true, true, true, true, true] (Tryz.f6.body.getD .skip)) _ ⟨T4, []⟩ W2
      obtain ⟨z4, q1, q2, q3, q9, qO, qW, qs, ⟨R, own, qr⟩, qb⟩ := hL4
      rw [hY] at qr
      obtain ⟨X, hdl⟩ := qr.toDl hc hO hi
      exact rs_last w n c hc R X sets scl hcl PA pc pl OA oc M2 Y2 T4 W2 ⟨z4, q1, q2, q3, q9, qO, qW, qs, hdl, qb⟩ hp hpi hpl
end Go.Proofs.YtkglclekieckoaaGreat

namespace Go.Proofs.YtkglclekieckoaaGreat
set_option linter.unusedSimpArgs false
set_option linter.unusedVariables false
set_option linter.unusedSectionVars false
open Go.RowKit

theorem reads_i1x (W : World) (m : Nat) (x : Int) [h : BoxAt W m #[.int .i64 x] 3] : Reads W W.heap.size 1 (some ⟨m, 0, none⟩) 1 (ics [x]) :=
  ⟨rfl, fun _ => ⟨_, _, rfl, h.lt, fun j u hu => by
    match j, hu with
    | 0, hu => simp [ics] at hu; subst hu; rw [cell?_box]; rfl
    | j + 1, hu => simp [ics] at hu⟩⟩
/-- those on among the first k -/
def onK (f : Nat → Bool) (k : Nat) : List Nat := (List.range k).filter f
theorem onK_succ (f : Nat → Bool) (k : Nat) : onK f (k + 1) = onK f k ++ (if f k then [k] else []) := by
  unfold onK
  rw [List.range_succ, List.filter_append]
  congr 1
  cases h : f k <;> simp [h]
theorem onK_len (f : Nat → Bool) (k : Nat) : (onK f k).length ≤ k := by
  have := List.length_filter_le f (List.range k)
  rwa [List.length_range] at this
theorem onL_app (l m : List Nat) : onL (l ++ m) = onL l ++ onL m := List.map_append
set_option maxRecDepth 100000 in
set_option maxHeartbeats 8000000 in
theorem rs_9 (Q : Exit → Act → World → Prop) (W : World) (T : Array Value) (hz : T.size = 178) 
    (hq : ∀ T' : Array Value, T'.size = 178 → (∀ j ∈ [1, 2, 3, 9], T'[j]? = T[j]?) → T'[11]? = some (.slice none 0 0) → Q .normal ⟨T', []⟩ W) :
    Code.wp Tryz.prog (cdP [true, true, true, true, false] (Tryz.f6.body.getD .skip)) Q ⟨T, []⟩ W := by
  obtain ⟨f, hf, hT'⟩ := frameRs hz
  have HQ := hide hq
  subst hT'
  clear hq hz hf 
  conv => arg 2; dsimp only [cdP, Tryz.f6, Option.getD]
  go_wp2_with fail
  exact HQ.out _ (by rfl) (by intro j hj; simp at hj; rcases hj with rfl | rfl | rfl | rfl <;> first | rfl) (by rfl)
set_option maxRecDepth 100000 in
set_option maxHeartbeats 8000000 in
theorem rs_10 (Q : Exit → Act → World → Prop) (W : World) (T : Array Value) (hz : T.size = 178) 
    (hq : ∀ T' : Array Value, T'.size = 178 → (∀ j ∈ [1, 2, 3, 9, 11], T'[j]? = T[j]?) → T'[12]? = some (.int .i64 0) → Q .normal ⟨T', []⟩ W) :
    Code.wp Tryz.prog (cdP [true, true, true, true, true, false, false] (Tryz.f6.body.getD .skip)) Q ⟨T, []⟩ W := by
  obtain ⟨f, hf, hT'⟩ := frameRs hz
  have HQ := hide hq
  subst hT'
  clear hq hz hf 
  conv => arg 2; dsimp only [cdP, Tryz.f6, Option.getD]
  go_wp2_with fail
  exact HQ.out _ (by rfl) (by intro j hj; simp at hj; rcases hj with rfl | rfl | rfl | rfl | rfl <;> first | rfl) (by rfl)
set_option maxRecDepth 100000 in
set_option maxHeartbeats 8000000 in
theorem rs_11 (Q : Exit → Act → World → Prop) (W : World) (i : Nat) (T : Array Value) (hz : T.size = 178) (h12 : T[12]? = some (.int .i64 i))
    (hq : ∀ T' : Array Value, T'.size = 178 → (∀ j ∈ [1, 2, 3, 9, 11, 12], T'[j]? = T[j]?) → (4 ≤ i → Q (.exit 2) ⟨T', []⟩ W) ∧ (i < 4 → Q .normal ⟨T', []⟩ W)) :
    Code.wp Tryz.prog (cdP [true, true, true, true, true, false, true, false, false, false] (Tryz.f6.body.getD .skip)) Q ⟨T, []⟩ W := by
  obtain ⟨f, hf, hT'⟩ := frameRs hz
  have HQ := hide hq
  subst hT'
  have e12 := hf 12 _ h12
  have HE12 := hide e12
  rw [e12]
  clear hq hz hf h12 e12
  conv => arg 2; dsimp only [cdP, Tryz.f6, Option.getD]
  by_cases hl : i < 4
  · have j1 : (i : Int) < 4 := by omega
    have HL := hide hl
    clear hl
    go_wp2_with fail
    exact (HQ.out _ (by rfl) (by intro j hj; simp at hj; rcases hj with rfl | rfl | rfl | rfl | rfl | rfl <;> first | rfl | exact congrArg some HE12.out.symm)).2 HL.out
  · have j1 : ¬ (i : Int) < 4 := by omega
    have HL := hide (show 4 ≤ i by omega)
    clear hl
    go_wp2_with fail
    exact (HQ.out _ (by rfl) (by intro j hj; simp at hj; rcases hj with rfl | rfl | rfl | rfl | rfl | rfl <;> first | rfl | exact congrArg some HE12.out.symm)).1 HL.out
set_option maxRecDepth 100000 in
set_option maxHeartbeats 8000000 in
theorem rs_13 (Q : Exit → Act → World → Prop) (W : World) (base : Nat) (bits : Int) (A : Option Addr) (c : Nat) (l : List Nat) (k : Nat) (T : Array Value) (hz : T.size = 178) (h1 : T[1]? = some (.int .i64 bits)) (h11 : T[11]? = some (.slice A l.length c)) (h12 : T[12]? = some (.int .i64 k)) (hk : k < 4) (hbase : base ≤ W.heap.size) (ho : W.ownsRow base 3 1 (.slice A l.length c) l.length (ics (onL l))) (hl : l.length ≤ 4)
    (hq : ∀ (T' : Array Value) (W' : World) (B : Option Addr) (d : Nat) (l' : List Nat), T'.size = 178 → (∀ j ∈ [1, 2, 3, 9, 12], T'[j]? = T[j]?) → l' = l ++ (if bitQ bits k then [k] else []) → T'[11]? = some (.slice B l'.length d) → W'.ownsRow base 3 1 (.slice B l'.length d) l'.length (ics (onL l')) → Below base W W' → Q .normal ⟨T', []⟩ W') :
    Code.wp Tryz.prog (cdP [true, true, true, true, true, false, true, false, false, true, false, false] (Tryz.f6.body.getD .skip)) Q ⟨T, []⟩ W := by
  obtain ⟨f, hf, hT'⟩ := frameRs hz
  have HQ := hide hq
  subst hT'
  have e1 := hf 1 _ h1
  have HE1 := hide e1
  have e11 := hf 11 _ h11
  have HE11 := hide e11
  have e12 := hf 12 _ h12
  have HE12 := hide e12
  rw [e1, e11, e12]
  clear hq hz hf h1 e1 h11 e11 h12 e12
  conv => arg 2; dsimp only [cdP, Tryz.f6, Option.getD]
  have HO := hide ho
  have HB := hide hbase
  have k0 : (0 : Int) ≤ (k : Int) := by omega
  have k1 : (k : Int) < 4 := by omega
  have k2 : (k : Int) < 64 := by omega
  clear ho
  cases hb : bitQ bits k
  · have hbb := hb
    unfold bitQ at hbb
    have HBT := hide hb
    go_wp2_with fail
    exact HQ.out _ _ A c l (by rfl) (by intro j hj; simp at hj; rcases hj with rfl | rfl | rfl | rfl | rfl <;> first | rfl | exact congrArg some HE1.out.symm | exact congrArg some HE12.out.symm) (by rw [HBT.out]; simp) (by rfl) HO.out (Below.refl _ _)
  · have hbb := hb
    unfold bitQ at hbb
    have HBT := hide hb
    clear hb
    go_wp2_with (first
      | (at_builtin; refine wpList_append_w Tryz.okI rfl (.tmp 55) (.tmp 57) rfl base (.slice A l.length c) l.length (ics (onL l)) 1 (ics [(k : Int)]) ?_ ?_ ?_ ?_ ?_ ?_ ?_ ?_; go_must ((focus (first | rfl | (simp [Act.eval, Act.put]; done))); (focus (exact own_tc HO.out)); (focus (refine ⟨_, _, rfl, ?_⟩; exact reads_i1x _ _ (k : Int))); (focus (exact ics_one _)); (focus (unfold maxLen; omega)); (focus omega); (focus (first | omega | (simp; done) | (simp; omega) | exact blw.size | exact BoxAt.lt (n := w.heap.size) inferInstance)); intro v1 w1 ho1 hg1; obtain ⟨B1, d1, rfl, _, _⟩ := own_slice ho1; have HO1 := hide ho1; have HG1 := hide hg1; clear ho1 hg1)))
    have hg2 : Below base W w1 := (Below.mono (blw (a := W)) HB.out).trans (grown_belowT HG1.out (by simp; omega) (fun q hq => (HO.out.lt q hq).1))
    exact HQ.out _ _ B1 d1 (l ++ [k]) (by rfl) (by intro j hj; simp at hj; rcases hj with rfl | rfl | rfl | rfl | rfl <;> first | rfl | exact congrArg some HE1.out.symm | exact congrArg some HE12.out.symm) (by rw [HBT.out]; simp) (by rw [List.length_append]; rfl) (by rw [onL_app, ics_app, List.length_append]; exact HO1.out) hg2
set_option maxRecDepth 100000 in
set_option maxHeartbeats 8000000 in
theorem rs_12 (Q : Exit → Act → World → Prop) (W : World) (i : Nat) (T : Array Value) (hz : T.size = 178) (h12 : T[12]? = some (.int .i64 i)) (hm : i < 200)
    (hq : ∀ T' : Array Value, T'.size = 178 → (∀ j ∈ [1, 2, 3, 9, 11], T'[j]? = T[j]?) → T'[12]? = some (.int .i64 ((i + 1 : Nat) : Int)) → Q .normal ⟨T', []⟩ W) :
    Code.wp Tryz.prog (cdP [true, true, true, true, true, false, true, false, false, true, true] (Tryz.f6.body.getD .skip)) Q ⟨T, []⟩ W := by
  obtain ⟨f, hf, hT'⟩ := frameRs hz
  have HQ := hide hq
  subst hT'
  have e12 := hf 12 _ h12
  have HE12 := hide e12
  rw [e12]
  clear hq hz hf h12 e12
  conv => arg 2; dsimp only [cdP, Tryz.f6, Option.getD]
  go_wp2_with fail
  refine HQ.out _ (by rfl) (by intro j hj; simp at hj; rcases hj with rfl | rfl | rfl | rfl | rfl <;> first | rfl) ?_
  have e : IntKind.i64.wrap ((i : Int) + 1) = ((i + 1 : Nat) : Int) := by
    rw [IntWalk.i64_in _ (by omega)]
    omega
  first
    | rfl
    | (rw [← e]; rfl)
end Go.Proofs.YtkglclekieckoaaGreat

namespace Go.Proofs.YtkglclekieckoaaGreat
set_option linter.unusedSimpArgs false
set_option linter.unusedVariables false
set_option linter.unusedSectionVars false
open Go.RowKit

set_option maxRecDepth 100000 in
set_option maxHeartbeats 8000000 in
theorem rs_on (w : World) (n : Nat) (sets scl : Int) (PA : Option Addr) (pc : Nat) (pl : List Int) (M : Ms) (T : Array Value) (W : World) (hz : T.size = 178)
    (t1 : T[1]? = some (.int .i64 sets)) (t2 : T[2]? = some (.int .i64 scl)) (t3 : T[3]? = some (.slice PA pl.length pc)) (t9 : T[9]? = some (.pointer (some ⟨n, 0, none⟩)))
    (hM : MW W M.C n M.aa M.inc M.cc M.SA M.sc M.S M.VA M.vc M.V) (hO : OneS M.aa M.inc M.cc M.S M.V) (hb : BndS 200 M.aa M.cc M.S) (hS : M.S.length ≤ 100) (hV : M.V.length ≤ 100) (hC : ∀ i ∈ M.C, w.heap.size ≤ i) (hbl : Below w.heap.size w W)
    (hp : Reads w w.heap.size 1 PA pl.length (ics pl)) (hpi : ∀ x ∈ pl, -9223372036854775808 ≤ x ∧ x ≤ 9223372036854775807) (hpl : pl.length ≤ 300) :
    Code.wp Tryz.prog (cdP [true, true, true, true] (Tryz.f6.body.getD .skip)) (bodyPost Tryz.prog Tryz.f6 (RetB w true)) ⟨T, []⟩ W := by
  refine wp_cdseq [true, true, true, true] (by kernel_rfl) ?_
  refine rs_9 _ W T hz fun T1 z1 k1 e11 => ?_
  show Code.wp Tryz.prog (cdP [true, true, true, true, true] (Tryz.f6.body.getD .skip)) _ ⟨T1, []⟩ W
  refine wp_cdseq [true, true, true, true, true] (by kernel_rfl) ?_
  refine wp_cdseq [true, true, true, true, true, false] (by kernel_rfl) ?_
  refine rs_10 _ W T1 z1 fun T2 z2 k2 e12 => ?_
  show Code.wp Tryz.prog (cdP [true, true, true, true, true, false, true] (Tryz.f6.body.getD .skip)) _ ⟨T2, []⟩ W
  refine wp_cdblock 2 [true, true, true, true, true, false, true] (by kernel_rfl) ?_
  have f2 : ∀ j ∈ [1, 2, 3, 9], T2[j]? = T[j]? := fun j hj => (k2 j (by simp at hj ⊢; omega)).trans (k1 j hj)
  refine wp_cdloop [true, true, true, true, true, false, true, false] (by kernel_rfl) (fun a W2 => ∃ (i : Nat) (A : Option Addr) (c : Nat) (T3 : Array Value), a = ⟨T3, []⟩ ∧ i ≤ 4 ∧ T3.size = 178 ∧ (∀ j ∈ [1, 2, 3, 9], T3[j]? = T[j]?) ∧ T3[12]? = some (.int .i64 i) ∧ T3[11]? = some (.slice A (onK (bitQ sets) i).length c) ∧ W2.ownsRow W.heap.size 3 1 (.slice A (onK (bitQ sets) i).length c) (onK (bitQ sets) i).length (ics (onL (onK (bitQ sets) i))) ∧ Below W.heap.size W W2) (fun a _ => 4 - (intOf (a.tmps.getD 12 undef)).toNat) ?_ ?_
  · exact ⟨0, none, 0, T2, rfl, by omega, z2, f2, e12, (k2 11 (by simp)).trans e11, ⟨rfl, .inl ⟨rfl, rfl⟩⟩, Below.refl _ _⟩
  · rintro a W2 ⟨i, A, c, T3, rfl, hi, z3, k3, h12, h11, ho, hb2⟩
    refine wp_cdseq [true, true, true, true, true, false, true, false, false] (by kernel_rfl) ?_
    refine rs_11 _ W2 i T3 z3 h12 fun T4 z4 k4 => ⟨fun h0 => ?_, fun h0 => ?_⟩
    · simp only [Exit.then, Exit.inBlock, if_true]
      show Code.wp Tryz.prog (cdP [true, true, true, true, true, true] (Tryz.f6.body.getD .skip)) _ ⟨T4, []⟩ W2
      obtain rfl : i = 4 := by omega
      have hc := cfg_ok (inc := M.inc) (fun k hk => hO.i1 k hk) (bitQ sets) (bitQ scl)
      have f4 : ∀ j ∈ [1, 2, 3, 9], T4[j]? = T[j]? := fun j hj => (k4 j (by simp at hj ⊢; omega)).trans (k3 j hj)
      exact rs_renews w n (cfgOf M.inc (bitQ sets) (bitQ scl)) hc sets scl (fun k hk => (cfg_sv hk).symm) rfl PA pc pl A c M T4 W2 z4 ((f4 1 (by simp)).trans t1) ((f4 2 (by simp)).trans t2) ((f4 3 (by simp)).trans t3) ((f4 9 (by simp)).trans t9) ((k4 11 (by simp)).trans h11) (hM.below hb2) hO hb hS hV rfl hC (RO.own ho hM.lt) (below_step hbl hb2) hp hpi hpl
    · show Code.wp Tryz.prog (cdP [true, true, true, true, true, false, true, false, false, true] (Tryz.f6.body.getD .skip)) _ ⟨T4, []⟩ W2
      refine wp_cdseq [true, true, true, true, true, false, true, false, false, true] (by kernel_rfl) ?_
      refine wp_cdblock 3 [true, true, true, true, true, false, true, false, false, true, false] (by kernel_rfl) ?_
      have hl := onK_len (bitQ sets) i
      refine rs_13 _ W2 W.heap.size sets A c (onK (bitQ sets) i) i T4 z4 ((k4 1 (by simp)).trans ((k3 1 (by simp)).trans t1)) ((k4 11 (by simp)).trans h11) ((k4 12 (by simp)).trans h12) h0 hb2.size ho (by omega) fun T5 W5 B d l' z5 k5 hl' e11 ho5 hb5 => ?_
      show Code.wp Tryz.prog (cdP [true, true, true, true, true, false, true, false, false, true, true] (Tryz.f6.body.getD .skip)) _ ⟨T5, []⟩ W5
      refine rs_12 _ W5 i T5 z5 ((k5 12 (by simp)).trans ((k4 12 (by simp)).trans h12)) (by omega) fun T6 z6 k6 e12 => ?_
      rw [← onK_succ] at hl'
      subst hl'
      refine ⟨⟨i + 1, B, d, T6, rfl, by omega, z6, fun j hj => (k6 j (by simp at hj ⊢; omega)).trans ((k5 j (by simp at hj ⊢; omega)).trans ((k4 j (by simp at hj ⊢; omega)).trans (k3 j hj))), e12, (k6 11 (by simp)).trans e11, ho5, hb2.trans hb5⟩, ?_⟩
      have e1 : (T6.getD 12 undef) = .int .i64 ((i + 1 : Nat) : Int) := by rw [Array.getD_eq_getD_getElem?, e12]; rfl
      have e2 : (T3.getD 12 undef) = .int .i64 (i : Int) := by rw [Array.getD_eq_getD_getElem?, h12]; rfl
      show 4 - (intOf (T6.getD 12 undef)).toNat < 4 - (intOf (T3.getD 12 undef)).toNat
      rw [e1, e2]
      show 4 - (((i + 1 : Nat) : Int)).toNat < 4 - ((i : Nat) : Int).toNat
      omega
end Go.Proofs.YtkglclekieckoaaGreat

namespace Go.Proofs.YtkglclekieckoaaGreat
set_option linter.unusedSimpArgs false
set_option linter.unusedVariables false
set_option linter.unusedSectionVars false
open Go.RowKit

/-- any step -/
theorem step18_a (n : Nat) (C : List Nat) (aa : Nat → Ag) (inc cc : Nat → Int) (SA : Option Addr) (sc : Nat) (S : List Pp) (VA : Option Addr) (vc : Nat) (V : List Vw) (x : St) (w : World)
    (h : MW w C n aa inc cc SA sc S VA vc V) (hO : OneS aa inc cc S V) (hS : S.length ≤ 500) (hV : V.length ≤ 500) (hI : ∀ k, k < 4 → inc k ≤ 1000) (hx : x.Wf) :
    Calls Tryz.prog 19 #[.pointer (some ⟨n, 0, none⟩), .agg #[.int .i64 x.wt, .int .i64 x.wo, .int .i64 x.wh, .int .i64 x.st, .int .i64 x.cl]] w (RetSt w C n aa inc cc S V) := by
  by_cases h0 : atI x.wt 5 = 0
  · exact step18_0 n C aa inc cc SA sc S VA vc V x.wt x.wo x.wh x.st x.cl w h hO hS hV hx.a hx.b h0
  · by_cases h4 : atI x.wt 5 = 4
    · exact step18_4 n C aa inc cc SA sc S VA vc V x.wt x.wo x.wh x.st x.cl w h hO hI hx.a hx.b h4
    · exact step18_t n C aa inc cc SA sc S VA vc V x.wt x.wo x.wh x.st x.cl w h hO hS hV hx.a hx.b hx.c h0 h4
set_option maxRecDepth 100000 in
set_option maxHeartbeats 8000000 in
theorem rs_0 (Q : Exit → Act → World → Prop) (W : World) (T : Array Value) (hz : T.size = 178) 
    (hq : ∀ T' : Array Value, T'.size = 178 → (∀ j ∈ [0, 1, 2, 3], T'[j]? = T[j]?) → Q .normal ⟨T', []⟩ W) :
    Code.wp Tryz.prog (cdP [false] (Tryz.f6.body.getD .skip)) Q ⟨T, []⟩ W := by
  obtain ⟨f, hf, hT'⟩ := frameRs hz
  have HQ := hide hq
  subst hT'
  clear hq hz hf 
  conv => arg 2; dsimp only [cdP, Tryz.f6, Option.getD]
  go_wp2_with fail
  exact HQ.out _ (by rfl) (by intro j hj; simp at hj; rcases hj with rfl | rfl | rfl | rfl <;> first | rfl)
set_option maxRecDepth 100000 in
set_option maxHeartbeats 8000000 in
theorem rs_1 (Q : Exit → Act → World → Prop) (W : World) (A PA : Option Addr) (ln c pn pc : Nat) (T : Array Value) (hz : T.size = 178) (h0 : T[0]? = some (.slice A ln c)) (h3 : T[3]? = some (.slice PA pn pc)) (hl : ln ≤ 100) (hp : pn ≤ 300)
    (hq : ∀ T' : Array Value, T'.size = 178 → (∀ j ∈ [0, 1, 2, 3], T'[j]? = T[j]?) → Q .normal ⟨T', []⟩ W) :
    Code.wp Tryz.prog (cdP [true, false] (Tryz.f6.body.getD .skip)) Q ⟨T, []⟩ W := by
  obtain ⟨f, hf, hT'⟩ := frameRs hz
  have HQ := hide hq
  subst hT'
  have e0 := hf 0 _ h0
  have HE0 := hide e0
  have e3 := hf 3 _ h3
  have HE3 := hide e3
  rw [e0, e3]
  clear hq hz hf h0 e0 h3 e3
  conv => arg 2; dsimp only [cdP, Tryz.f6, Option.getD]
  have d1 : decide (100 < (ln : Int)) = false := decide_eq_false (by omega)
  have d2 : decide (300 < (pn : Int)) = false := decide_eq_false (by omega)
  have d3 : decide (100 < ln) = false := decide_eq_false (by omega)
  have d4 : decide (300 < pn) = false := decide_eq_false (by omega)
  go_wp2_with fail
  exact HQ.out _ (by rfl) (by intro j hj; simp at hj; rcases hj with rfl | rfl | rfl | rfl <;> first | rfl | exact congrArg some HE0.out.symm | exact congrArg some HE3.out.symm)
set_option maxRecDepth 100000 in
set_option maxHeartbeats 8000000 in
theorem rs_3 (Q : Exit → Act → World → Prop) (W : World) (T : Array Value) (hz : T.size = 178) 
    (hq : ∀ (T' : Array Value) (W' : World) (n : Nat) (aa : Nat → Ag) (inc : Nat → Int), T'.size = 178 → (∀ j ∈ [0, 1, 2, 3], T'[j]? = T[j]?) → T'[9]? = some (.pointer (some ⟨n, 0, none⟩)) → W.heap.size ≤ n → (∀ k, k < 4 → (aa k).br = newA (k + 1) 1 ∧ inc k = 1) → MW W' [n] n aa inc (fun _ => 0) none 0 [] none 0 [] → Below W.heap.size W W' → Q .normal ⟨T', []⟩ W') :
    Code.wp Tryz.prog (cdP [true, true, false] (Tryz.f6.body.getD .skip)) Q ⟨T, []⟩ W := by
  obtain ⟨f, hf, hT'⟩ := frameRs hz
  have HQ := hide hq
  subst hT'
  clear hq hz hf 
  conv => arg 2; dsimp only [cdP, Tryz.f6, Option.getD]
  go_wp2_with fail
  (with_reducible refine (begun18_s _).mono ?_)
  rintro e w1 ⟨n, aa0, inc0, rfl, hn, hbr, hM, hb1⟩
  have HN := hide hn
  have HBR := hide hbr
  have HM := hide hM
  have HB := hide hb1
  clear hn hbr hM hb1
  go_wp2_with fail
  exact HQ.out _ _ n aa0 inc0 (by rfl) (by intro j hj; simp at hj; rcases hj with rfl | rfl | rfl | rfl <;> first | rfl) (by rfl) HN.out HBR.out HM.out HB.out
set_option maxRecDepth 100000 in
set_option maxHeartbeats 8000000 in
theorem rs_4 (Q : Exit → Act → World → Prop) (W : World) (T : Array Value) (hz : T.size = 178) 
    (hq : ∀ T' : Array Value, T'.size = 178 → (∀ j ∈ [0, 1, 2, 3, 9], T'[j]? = T[j]?) → T'[10]? = some (.int .i64 0) → Q .normal ⟨T', []⟩ W) :
    Code.wp Tryz.prog (cdP [true, true, true, false, false] (Tryz.f6.body.getD .skip)) Q ⟨T, []⟩ W := by
  obtain ⟨f, hf, hT'⟩ := frameRs hz
  have HQ := hide hq
  subst hT'
  clear hq hz hf 
  conv => arg 2; dsimp only [cdP, Tryz.f6, Option.getD]
  go_wp2_with fail
  exact HQ.out _ (by rfl) (by intro j hj; simp at hj; rcases hj with rfl | rfl | rfl | rfl | rfl <;> first | rfl) (by rfl)
set_option maxRecDepth 100000 in
set_option maxHeartbeats 8000000 in
theorem rs_5 (Q : Exit → Act → World → Prop) (W : World) (A : Option Addr) (ln c i : Nat) (T : Array Value) (hz : T.size = 178) (h0 : T[0]? = some (.slice A ln c)) (h10 : T[10]? = some (.int .i64 i))
    (hq : ∀ T' : Array Value, T'.size = 178 → (∀ j ∈ [0, 1, 2, 3, 9, 10], T'[j]? = T[j]?) → (ln ≤ i → Q (.exit 0) ⟨T', []⟩ W) ∧ (i < ln → Q .normal ⟨T', []⟩ W)) :
    Code.wp Tryz.prog (cdP [true, true, true, false, true, false, false, false] (Tryz.f6.body.getD .skip)) Q ⟨T, []⟩ W := by
  obtain ⟨f, hf, hT'⟩ := frameRs hz
  have HQ := hide hq
  subst hT'
  have e0 := hf 0 _ h0
  have HE0 := hide e0
  have e10 := hf 10 _ h10
  have HE10 := hide e10
  rw [e0, e10]
  clear hq hz hf h0 e0 h10 e10
  conv => arg 2; dsimp only [cdP, Tryz.f6, Option.getD]
  by_cases hl : i < ln
  · have j1 : (i : Int) < (ln : Int) := by omega
    have HL := hide hl
    clear hl
    go_wp2_with fail
    exact (HQ.out _ (by rfl) (by intro j hj; simp at hj; rcases hj with rfl | rfl | rfl | rfl | rfl | rfl <;> first | rfl | exact congrArg some HE0.out.symm | exact congrArg some HE10.out.symm)).2 HL.out
  · have j1 : ¬ (i : Int) < (ln : Int) := by omega
    have HL := hide (show ln ≤ i by omega)
    clear hl
    go_wp2_with fail
    exact (HQ.out _ (by rfl) (by intro j hj; simp at hj; rcases hj with rfl | rfl | rfl | rfl | rfl | rfl <;> first | rfl | exact congrArg some HE0.out.symm | exact congrArg some HE10.out.symm)).1 HL.out
set_option maxRecDepth 100000 in
set_option maxHeartbeats 8000000 in
theorem rs_7 (Q : Exit → Act → World → Prop) (W : World) (A : Option Addr) (c : Nat) (l : List St) (n i : Nat) (C : List Nat) (aa : Nat → Ag) (inc cc : Nat → Int) (SA : Option Addr) (sc : Nat) (S : List Pp) (VA : Option Addr) (vc : Nat) (V : List Vw) (T : Array Value) (hz : T.size = 178) (h0 : T[0]? = some (.slice A l.length c)) (h9 : T[9]? = some (.pointer (some ⟨n, 0, none⟩))) (h10 : T[10]? = some (.int .i64 i)) (hr : Reads W W.heap.size 5 A l.length (sts l)) (hi : i < l.length) (hl : l.length ≤ 100) (hx : ∀ x ∈ l, x.Wf)
    (hM : MW W C n aa inc cc SA sc S VA vc V) (hO : OneS aa inc cc S V) (hS : S.length ≤ 500) (hV : V.length ≤ 500) (hI : ∀ k, k < 4 → inc k ≤ 1000)
    (hq : ∀ (T' : Array Value) (W' : World), T'.size = 178 → (∀ j ∈ [0, 1, 2, 3, 9, 10], T'[j]? = T[j]?) → RetSt W C n aa inc cc S V (.returned (.bool true)) W' → Q .normal ⟨T', []⟩ W') :
    Code.wp Tryz.prog (cdP [true, true, true, false, true, false, false, true, false, false] (Tryz.f6.body.getD .skip)) Q ⟨T, []⟩ W := by
  obtain ⟨f, hf, hT'⟩ := frameRs hz
  have HQ := hide hq
  subst hT'
  have e0 := hf 0 _ h0
  have HE0 := hide e0
  have e9 := hf 9 _ h9
  have HE9 := hide e9
  have e10 := hf 10 _ h10
  have HE10 := hide e10
  rw [e0, e9, e10]
  clear hq hz hf h0 e0 h9 e9 h10 e10
  conv => arg 2; dsimp only [cdP, Tryz.f6, Option.getD]
  obtain ⟨b, off, x, hA, hb, hxm, v0, v1, v2, v3, v4⟩ := Reads.atSt hr hi
  have TX := hide (step18_a n C aa inc cc SA sc S VA vc V x W hM hO hS hV hI (hx x (List.mem_of_getElem? hxm)))
  subst hA
  haveI : CellAt W b (off + i * 5) (.int .i64 x.wt) := ⟨hb, v0⟩
  haveI : CellAt W b (off + i * 5 + 1) (.int .i64 x.wo) := ⟨hb, v1⟩
  haveI : CellAt W b (off + i * 5 + 2) (.int .i64 x.wh) := ⟨hb, v2⟩
  haveI : CellAt W b (off + i * 5 + 3) (.int .i64 x.st) := ⟨hb, v3⟩
  haveI : CellAt W b (off + i * 5 + 4) (.int .i64 x.cl) := ⟨hb, v4⟩
  haveI : InW b W := ⟨hb⟩
  have j0 : (0 : Int) ≤ (i : Int) := by omega
  have j1 : (i : Int) < (l.length : Int) := by omega
  clear hM hO hS hV hI hxm v0 v1 v2 v3 v4 hr hx
  go_wp2_with fail
  (with_reducible refine (TX.out).mono ?_)
  rintro e w' hR
  have hR2 := hR
  obtain ⟨_, _, _, _, _, _, _, _, _, _, rfl, _⟩ := hR
  have HR := hide hR2
  clear hR2
  go_wp2_with fail
  exact HQ.out _ _ (by rfl) (by intro j hj; simp at hj; rcases hj with rfl | rfl | rfl | rfl | rfl | rfl <;> first | rfl | exact congrArg some HE0.out.symm | exact congrArg some HE9.out.symm | exact congrArg some HE10.out.symm) HR.out
set_option maxRecDepth 100000 in
set_option maxHeartbeats 8000000 in
theorem rs_6 (Q : Exit → Act → World → Prop) (W : World) (i : Nat) (T : Array Value) (hz : T.size = 178) (h10 : T[10]? = some (.int .i64 i)) (hm : i < 200)
    (hq : ∀ T' : Array Value, T'.size = 178 → (∀ j ∈ [0, 1, 2, 3, 9], T'[j]? = T[j]?) → T'[10]? = some (.int .i64 ((i + 1 : Nat) : Int)) → Q .normal ⟨T', []⟩ W) :
    Code.wp Tryz.prog (cdP [true, true, true, false, true, false, false, true, true] (Tryz.f6.body.getD .skip)) Q ⟨T, []⟩ W := by
  obtain ⟨f, hf, hT'⟩ := frameRs hz
  have HQ := hide hq
  subst hT'
  have e10 := hf 10 _ h10
  have HE10 := hide e10
  rw [e10]
  clear hq hz hf h10 e10
  conv => arg 2; dsimp only [cdP, Tryz.f6, Option.getD]
  go_wp2_with fail
  refine HQ.out _ (by rfl) (by intro j hj; simp at hj; rcases hj with rfl | rfl | rfl | rfl | rfl <;> first | rfl) ?_
  have e : IntKind.i64.wrap ((i : Int) + 1) = ((i + 1 : Nat) : Int) := by
    rw [IntWalk.i64_in _ (by omega)]
    omega
  first
    | rfl
    | (rw [← e]; rfl)
end Go.Proofs.YtkglclekieckoaaGreat

namespace Go.Proofs.YtkglclekieckoaaGreat
set_option linter.unusedSimpArgs false
set_option linter.unusedVariables false
set_option linter.unusedSectionVars false
open Go.RowKit

theorem BndS.begun {aa : Nat → Ag} {inc : Nat → Int} (h : ∀ k : Nat, k < 4 → (aa k).br = newA (k + 1) 1 ∧ inc k = 1) : BndS 0 aa (fun _ => 0) [] := by
  refine ⟨fun k hk => ?_, fun k hk => ?_, fun _ => Int.le_refl _, (fun g hg => by cases hg), Int.le_refl _, fun g hg => by cases hg⟩
  · have := congrArg Ag.sp (h k hk).1
    exact this
  · have : (aa k).rd = 0 := congrArg Ag.rd (h k hk).1
    omega
/-- at the head of the loop of steps -/
structure Lp1 (w : World) (n : Nat) (sets scl : Int) (A : Option Addr) (c : Nat) (l : List St) (PA : Option Addr) (pc : Nat) (pl : List Int) (i : Nat) (M : Ms) (T : Array Value) (W : World) : Prop where
  z : T.size = 178
  t0 : T[0]? = some (.slice A l.length c)
  t1 : T[1]? = some (.int .i64 sets)
  t2 : T[2]? = some (.int .i64 scl)
  t3 : T[3]? = some (.slice PA pl.length pc)
  t9 : T[9]? = some (.pointer (some ⟨n, 0, none⟩))
  t10 : T[10]? = some (.int .i64 i)
  le : i ≤ l.length
  m : MW W M.C n M.aa M.inc M.cc M.SA M.sc M.S M.VA M.vc M.V
  o : OneS M.aa M.inc M.cc M.S M.V
  b : BndS (2 * i) M.aa M.cc M.S
  s : M.S.length ≤ i
  v : M.V.length ≤ i
  i : ∀ k, k < 4 → M.inc k ≤ i + 1
  cb : ∀ j ∈ M.C, w.heap.size ≤ j
  bl : Below w.heap.size w W
set_option maxRecDepth 100000 in
set_option maxHeartbeats 8000000 in
theorem rs_all (w : World) (sets scl : Int) (A : Option Addr) (c : Nat) (l : List St) (PA : Option Addr) (pc : Nat) (pl : List Int) (T : Array Value) (hz : T.size = 178)
    (t0 : T[0]? = some (.slice A l.length c)) (t1 : T[1]? = some (.int .i64 sets)) (t2 : T[2]? = some (.int .i64 scl)) (t3 : T[3]? = some (.slice PA pl.length pc))
    (hr : Reads w w.heap.size 5 A l.length (sts l)) (hl : l.length ≤ 100) (hx : ∀ x ∈ l, x.Wf)
    (hp : Reads w w.heap.size 1 PA pl.length (ics pl)) (hpi : ∀ x ∈ pl, -9223372036854775808 ≤ x ∧ x ≤ 9223372036854775807) (hpl : pl.length ≤ 300) :
    Code.wp Tryz.prog (cdP [] (Tryz.f6.body.getD .skip)) (bodyPost Tryz.prog Tryz.f6 (RetB w true)) ⟨T, []⟩ w := by
  refine wp_cdseq [] (by kernel_rfl) ?_
  refine rs_0 _ w T hz fun T1 z1 k1 => ?_
  show Code.wp Tryz.prog (cdP [true] (Tryz.f6.body.getD .skip)) _ ⟨T1, []⟩ w
  refine wp_cdseq [true] (by kernel_rfl) ?_
  refine rs_1 _ w A PA l.length c pl.length pc T1 z1 ((k1 0 (by simp)).trans t0) ((k1 3 (by simp)).trans t3) hl hpl fun T2 z2 k2 => ?_
  show Code.wp Tryz.prog (cdP [true, true] (Tryz.f6.body.getD .skip)) _ ⟨T2, []⟩ w
  refine wp_cdseq [true, true] (by kernel_rfl) ?_
  refine rs_3 _ w T2 z2 fun T3 W3 n aa0 inc0 z3 k3 e9 hn hbr hM0 hb3 => ?_
  show Code.wp Tryz.prog (cdP [true, true, true] (Tryz.f6.body.getD .skip)) _ ⟨T3, []⟩ W3
  refine wp_cdseq [true, true, true] (by kernel_rfl) ?_
  refine wp_cdseq [true, true, true, false] (by kernel_rfl) ?_
  refine rs_4 _ W3 T3 z3 fun T4 z4 k4 e10 => ?_
  show Code.wp Tryz.prog (cdP [true, true, true, false, true] (Tryz.f6.body.getD .skip)) _ ⟨T4, []⟩ W3
  refine wp_cdblock 0 [true, true, true, false, true] (by kernel_rfl) ?_
  have f3 : ∀ j ∈ [0, 1, 2, 3], T4[j]? = T[j]? := fun j hj => (k4 j (by simp at hj ⊢; omega)).trans ((k3 j hj).trans ((k2 j hj).trans (k1 j hj)))
  refine wp_cdloop [true, true, true, false, true, false] (by kernel_rfl) (fun a W => ∃ (i : Nat) (M : Ms) (T : Array Value), a = ⟨T, []⟩ ∧ Lp1 w n sets scl A c l PA pc pl i M T W) (fun a _ => l.length - (intOf (a.tmps.getD 10 undef)).toNat) ?_ ?_
  · exact ⟨0, ⟨[n], aa0, inc0, fun _ => 0, none, 0, [], none, 0, []⟩, T4, rfl, ⟨z4, (f3 0 (by simp)).trans t0, (f3 1 (by simp)).trans t1, (f3 2 (by simp)).trans t2, (f3 3 (by simp)).trans t3, (k4 9 (by simp)).trans e9, e10, Nat.zero_le _, hM0, OneS.begun hbr, BndS.begun hbr, Nat.le_refl _, Nat.le_refl _, fun k hk => by show inc0 k ≤ ((0 : Nat) : Int) + 1; rw [(hbr k hk).2]; omega, fun j hj => by rw [List.mem_singleton.1 hj]; exact hn, hb3⟩⟩
  · rintro a W5 ⟨i, M, T5, rfl, hL⟩
    obtain ⟨z5, q0, q1, q2, q3, q9, q10, hle, hM, hO, hB, hS, hV, hI, hC, hbl⟩ := hL
    refine wp_cdseq [true, true, true, false, true, false, false] (by kernel_rfl) ?_
    refine rs_5 _ W5 A l.length c i T5 z5 q0 q10 fun T6 z6 k6 => ⟨fun h0 => ?_, fun h0 => ?_⟩
    · simp only [Exit.then, Exit.inBlock, if_true]
      show Code.wp Tryz.prog (cdP [true, true, true, true] (Tryz.f6.body.getD .skip)) _ ⟨T6, []⟩ W5
      exact rs_on w n sets scl PA pc pl M T6 W5 z6 ((k6 1 (by simp)).trans q1) ((k6 2 (by simp)).trans q2) ((k6 3 (by simp)).trans q3) ((k6 9 (by simp)).trans q9) hM hO (hB.mono (by omega)) (by omega) (by omega) hC hbl hp hpi hpl
    · show Code.wp Tryz.prog (cdP [true, true, true, false, true, false, false, true] (Tryz.f6.body.getD .skip)) _ ⟨T6, []⟩ W5
      refine wp_cdseq [true, true, true, false, true, false, false, true] (by kernel_rfl) ?_
      refine wp_cdblock 1 [true, true, true, false, true, false, false, true, false] (by kernel_rfl) ?_
      refine rs_7 _ W5 A c l n i M.C M.aa M.inc M.cc M.SA M.sc M.S M.VA M.vc M.V T6 z6 ((k6 0 (by simp)).trans q0) ((k6 9 (by simp)).trans q9) ((k6 10 (by simp)).trans q10) ((hr.below hbl).more hbl.size) h0 hl hx hM hO (by omega) (by omega) (fun k hk => by have := hI k hk; omega) fun T7 W7 z7 k7 hR => ?_
      show Code.wp Tryz.prog (cdP [true, true, true, false, true, false, false, true, true] (Tryz.f6.body.getD .skip)) _ ⟨T7, []⟩ W7
      obtain ⟨C', aa', inc', cc', SA', sc', S', VA', vc', V', -, hM', hO', hS', hV', hI', hT', hB'⟩ := hR
      have g7 : ∀ j ∈ [0, 1, 2, 3, 9, 10], T7[j]? = T5[j]? := fun j hj => (k7 j hj).trans (k6 j hj)
      refine rs_6 _ W7 i T7 z7 ((g7 10 (by simp)).trans q10) (by omega) fun T8 z8 k8 e10' => ?_
      have hB2 : BndS (2 * ((i + 1 : Nat) : Int)) aa' cc' S' := by
        have := hB' _ hB (by unfold um; omega)
        rw [show (2 : Int) * (i : Int) + 2 = 2 * ((i + 1 : Nat) : Int) by omega] at this
        exact this
      refine ⟨⟨i + 1, ⟨C', aa', inc', cc', SA', sc', S', VA', vc', V'⟩, T8, rfl, ⟨z8, (k8 0 (by simp)).trans ((g7 0 (by simp)).trans q0), (k8 1 (by simp)).trans ((g7 1 (by simp)).trans q1), (k8 2 (by simp)).trans ((g7 2 (by simp)).trans q2), (k8 3 (by simp)).trans ((g7 3 (by simp)).trans q3), (k8 9 (by simp)).trans ((g7 9 (by simp)).trans q9), e10', h0, hM', hO', hB2, by show S'.length ≤ i + 1; omega, by show V'.length ≤ i + 1; omega, fun k hk => by have h1 := hI' k hk; have h2 := hI k hk; show inc' k ≤ ((i + 1 : Nat) : Int) + 1; omega, hT'.ge hC hbl.size, hbl.trans (hT'.g.below hbl.size hC)⟩⟩, ?_⟩
      have e1 : (T8.getD 10 undef) = .int .i64 ((i + 1 : Nat) : Int) := by rw [Array.getD_eq_getD_getElem?, e10']; rfl
      have e2 : (T5.getD 10 undef) = .int .i64 (i : Int) := by rw [Array.getD_eq_getD_getElem?, q10]; rfl
      show l.length - (intOf (T8.getD 10 undef)).toNat < l.length - (intOf (T5.getD 10 undef)).toNat
      rw [e1, e2]
      show l.length - (((i + 1 : Nat) : Int)).toNat < l.length - ((i : Nat) : Int).toNat
      omega
set_option maxRecDepth 100000 in
set_option maxHeartbeats 8000000 in
theorem roundSettles_true (A : Option Addr) (c : Nat) (l : List St) (sets scl : Int) (PA : Option Addr) (pc : Nat) (pl : List Int) (w : World) (hll : l.length ≤ 9223372036854775807)
    (hr : Reads w w.heap.size 5 A l.length (sts l)) (hx : ∀ x ∈ l, x.Wf) (hpp : pl.length ≤ 9223372036854775807) (hp : Reads w w.heap.size 1 PA pl.length (ics pl)) (hpi : ∀ x ∈ pl, -9223372036854775808 ≤ x ∧ x ≤ 9223372036854775807) :
    Calls Tryz.prog 6 #[.slice A l.length c, .int .i64 sets, .int .i64 scl, .slice PA pl.length pc] w (RetB w true) := by
  have TA := hide (fun W => awake18_t W)
  have HR := hide hr
  have HX := hide hx
  have HP := hide hp
  have HPI := hide hpi
  clear hr hx hp hpi
  by_cases h1 : 100 < l.length
  · have d1 : decide (100 < (l.length : Int)) = true := decide_eq_true (by omega)
    clear h1
    go_enter Tryz.func6, Tryz.ntmps6
    go_wp2_with fail
    (with_reducible refine (TA.out _).mono ?_)
    rintro e w1 ⟨rfl, hb1⟩
    haveI : Stp _ w1 := ⟨hb1⟩
    go_wp2_with fail
    go_ret
    exact ⟨rfl, blw⟩
  · have d1 : decide (100 < (l.length : Int)) = false := decide_eq_false (by omega)
    by_cases h2 : 300 < pl.length
    · have d2 : decide (300 < (pl.length : Int)) = true := decide_eq_true (by omega)
      clear h1 h2
      go_enter Tryz.func6, Tryz.ntmps6
      go_wp2_with fail
      (with_reducible refine (TA.out _).mono ?_)
      rintro e w1 ⟨rfl, hb1⟩
      haveI : Stp _ w1 := ⟨hb1⟩
      go_wp2_with fail
      go_ret
      exact ⟨rfl, blw⟩
    · have e1 : l.length ≤ 100 := by omega
      have e2 : pl.length ≤ 300 := by omega
      clear d1 h1 h2
      go_enter Tryz.func6, Tryz.ntmps6
      exact rs_all w sets scl A c l PA pc pl _ (by rfl) (by rfl) (by rfl) (by rfl) (by rfl) HR.out e1 HX.out HP.out HPI.out e2
end Go.Proofs.YtkglclekieckoaaGreat

/-
  Layer 9: contract: proposal.Encode.
-/
import Derived.Test.YtdmjopokclljlaaGreatPp
import Derived.Test.YtdmjopokclljlaaGreatEnc
import Derived.Test.YtdmjopokclljlaaGreatDec
import Derived.Test.YtdmjopokclljlaaGreatInv
namespace Go.Proofs.YtdmjopokclljlaaGreat
set_option linter.unusedSimpArgs false
set_option linter.unusedVariables false
set_option linter.unusedSectionVars false
open Go.RowKit

/-- while it is written -/
structure EP (w : World) (cs : Array Value) (g : Nat) (v : Value) (bs : List Int) (W : World) : Prop where
  k0 : BoxAt W w.heap.size cs 43
  hw : Wtr W g v bs
  hB : Below w.heap.size w W
  hg : w.heap.size < g
theorem EP.below {w W W' : World} {cs : Array Value} {g : Nat} {v : Value} {bs : List Int} (h : EP w cs g v bs W) (hb : Below W.heap.size W W') : EP w cs g v bs W' :=
  ⟨h.k0.step hb, h.hw.below hb, below_step h.hB hb, h.hg⟩
theorem EP.put {w W W' : World} {cs : Array Value} {g : Nat} {v v' : Value} {bs bs' : List Int} (h : EP w cs g v bs W) (hw' : Wtr W' g v' bs') (hs : WStep g v W v' W') : EP w cs g v' bs' W' := by
  have hg := h.hg
  exact ⟨hs.boxAt h.k0 (by omega) (fun e => by have := (h.hw.own.lt _ e).1; omega), hw', h.hB.trans (hs.to_below h.hw (by omega)), hg⟩
theorem EP.rd {w W : World} {cs : Array Value} {g : Nat} {v : Value} {bs : List Int} (h : EP w cs g v bs W) {k n : Nat} {A : Option Addr} {xs : List Value} (hr : Reads w w.heap.size k A n xs) : RdW W g v k A n xs :=
  RdW.of_reads h.hw ((hr.below h.hB).more (by have := h.hg; omega))
/-- a proposal's bytes -/
def Pp.enc (x : Pp) : List Int := 6 :: (procB (x.n, x.i) ++ (uintB x.rd ++ (setBy x.ss ++ (setBy x.cs ++ uintsB x.us))))
set_option maxRecDepth 100000 in
set_option maxHeartbeats 4000000 in
theorem pencode_s (x : Pp) (w : World) (hx : x.Ok w) (hsl : x.ss.length ≤ 300) (hcl : x.cs.length ≤ 300) (hul : x.us.length ≤ 300) (hwi : wfU64 x.i) (hwr : wfU64 x.rd) (hws : ∀ p ∈ x.ss, wfU64 p.2) (hwc : ∀ p ∈ x.cs, wfU64 p.2) (hwu : ∀ u ∈ x.us, wfU64 u) (hmay : x.mayB = true) :
    Calls Tryz.prog 15 #[x.v] w (RetE w x.enc) := by
  have TM := hide (fun W (h : x.Ok W) => pmay_s x W h)
  rw [hmay] at TM
  have HX := hide hx
  obtain ⟨n, i, rd, SA, sc, ss, CA, cc, cs, UA, uc, us⟩ := x
  unfold Pp.v Pp.enc at *
  simp only at *
  have HS := hide hx.s
  have HC := hide hx.c
  have HU := hide hx.u
  simp only at HS HC HU
  have i0 : ∀ W, (Instr.index 77 (.agg #[.slice SA ss.length sc, .slice CA cs.length cc]) (.int .i64 0)).run Tryz.prog W = .ok (.slice SA ss.length sc) W := fun _ => by kernel_rfl
  have i1 : ∀ W, (Instr.index 77 (.agg #[.slice SA ss.length sc, .slice CA cs.length cc]) (.int .i64 1)).run Tryz.prog W = .ok (.slice CA cs.length cc) W := fun _ => by kernel_rfl
  have q1 := uintB_len i
  have q2 := uintB_len rd
  have q3 := procsB_len ss
  have q4 := procsB_len cs
  have q5 := uintsB_len us
  clear hx hmay
  go_enter Tryz.func15, Tryz.ntmps15
  go_wp2_with fail
  (with_reducible refine (TM.out _ (HX.out.step (by repeat (first | exact Below.refl _ _ | assumption | refine bel_al ?_ _ | refine bel_gw ?_ _ _ | refine bel_drew ?_ | refine bel_drewN ?_ _)))).mono ?_)
  rintro e w1 ⟨rfl, hb⟩
  have p0 : BoxAt w1 w.heap.size (csP n i rd SA ss.length sc CA cs.length cc UA us.length uc) 43 := (boxTop w _ _).step hb
  have hB := below_step (below_alloc w (bxP n i rd SA ss.length sc CA cs.length cc UA us.length uc)) hb
  have hlt := p0.lt
  clear hb TM
  go_wp2_with fail
  with_reducible refine (newWriter_s w1).mono ?_
  rintro e w2 ⟨rfl, rfl⟩
  have E0 : EP w (csP n i rd SA ss.length sc CA cs.length cc UA us.length uc) w1.heap.size (.slice none 0 0) [] (w1.alloc (.cells #[.slice none 0 0] 99)) :=
    ⟨p0.alloc' _, newWtr w1, below_step hB (by repeat (first | exact Below.refl _ _ | assumption | refine bel_al ?_ _ | refine bel_gw ?_ _ _ | refine bel_drew ?_ | refine bel_drewN ?_ _)), hlt⟩
  have T1 := hide (u8_s _ _ _ 6 _ E0.hw (by simp) (by omega) (by omega))
  haveI := E0.k0
  have HE0 := hide E0
  clear E0 hB p0
  go_wp2_with fail
  with_reducible refine T1.out.mono ?_
  rintro e w3 ⟨rfl, v3, hw3, hs3⟩
  have E3 := HE0.out.put hw3 hs3
  haveI := E3.k0
  clear hw3 hs3 HE0 T1
  rw [List.nil_append] at E3
  have E3b := E3.below (below_alloc w3 (bx n i))
  have T2 := hide (putP1_s _ _ _ (some ⟨w3.heap.size, 0, none⟩) n i _ E3b.hw (RdW.lit2 E3.hw n i) (by simp) hwi)
  haveI := E3b.k0
  have HE3 := hide E3b
  clear E3 E3b
  go_wp2_with fail
  with_reducible refine T2.out.mono ?_
  rintro e w4 ⟨rfl, v4, hw4, hs4⟩
  have E4 := HE3.out.put hw4 hs4
  haveI := E4.k0
  clear hw4 hs4 HE3 T2
  have T3 := hide (uint_s _ _ _ rd _ E4.hw (by simp [procB]; omega) hwr.1 hwr.2)
  have HE4 := hide E4
  clear E4
  go_wp2_with fail
  with_reducible refine T3.out.mono ?_
  rintro e w5 ⟨rfl, v5, hw5, hs5⟩
  have E5 := HE4.out.put hw5 hs5
  haveI := E5.k0
  clear hw5 hs5 HE4 T3
  have HE5 := hide E5
  clear E5
  have hc0 : 0 ≤ (ss.length : Int) % 256 := by omega
  have hc1 : (ss.length : Int) % 256 < 256 := by omega
  have hd0 : 0 ≤ (cs.length : Int) % 256 := by omega
  have hd1 : (cs.length : Int) % 256 < 256 := by omega
  have T4 := hide (u8_s _ _ _ ((ss.length : Int) % 256) _ HE5.out.hw (by simp [procB]; omega) hc0 hc1)
  go_wp2
  refine wp_loop_rounds 3 ?_
  rw [rounds_succ]
  go_wp2_with fail
  with_reducible refine T4.out.mono ?_
  rintro e w6 ⟨rfl, v6, hw6, hs6⟩
  have E6 := HE5.out.put hw6 hs6
  haveI := E6.k0
  clear hw6 hs6 HE5 T4
  have T5 := hide (putP_s _ _ _ SA sc ss _ E6.hw (E6.rd HS.out) (by omega) (by simp [procB]; omega) hws)
  have HE6 := hide E6
  clear E6
  go_wp2_with fail
  with_reducible refine T5.out.mono ?_
  rintro e w7 ⟨rfl, v7, hw7, hs7⟩
  have E7 := HE6.out.put hw7 hs7
  haveI := E7.k0
  clear hw7 hs7 HE6 T5
  have T6 := hide (u8_s _ _ _ ((cs.length : Int) % 256) _ E7.hw (by simp [procB]; omega) hd0 hd1)
  have HE7 := hide E7
  clear E7
  go_wp2
  rw [rounds_succ]
  go_wp2_with fail
  with_reducible refine T6.out.mono ?_
  rintro e w8 ⟨rfl, v8, hw8, hs8⟩
  have E8 := HE7.out.put hw8 hs8
  haveI := E8.k0
  clear hw8 hs8 HE7 T6
  have T7 := hide (putP_s _ _ _ CA cc cs _ E8.hw (E8.rd HC.out) (by omega) (by simp [procB]; omega) hwc)
  have HE8 := hide E8
  clear E8
  go_wp2_with fail
  with_reducible refine T7.out.mono ?_
  rintro e w9 ⟨rfl, v9, hw9, hs9⟩
  have E9 := HE8.out.put hw9 hs9
  haveI := E9.k0
  clear hw9 hs9 HE8 T7
  have T8 := hide (putU_s _ _ _ UA uc us _ E9.hw (E9.rd HU.out) (by omega) (by simp [procB]; omega) hwu)
  have HE9 := hide E9
  clear E9
  go_wp2
  rw [rounds_succ]
  go_wp2_with fail
  with_reducible refine T8.out.mono ?_
  rintro e w10 ⟨rfl, v10, hw10, hs10⟩
  have E10 := HE9.out.put hw10 hs10
  haveI := E10.k0
  clear hw10 hs10 HE9 T8
  have T9 := hide (bytes_s _ _ _ _ E10.hw (by simp [procB]; omega))
  have HB10 := hide E10.hB
  have hsz := E10.hB.size
  clear E10
  go_wp2_with fail
  with_reducible refine T9.out.mono ?_
  rintro e w11 ⟨v11, rfl, ho11, hb11⟩
  have HO11 := hide (own_base ho11 hsz)
  obtain ⟨A11, c11, rfl, _, _⟩ := own_slice ho11
  clear ho11
  go_wp2
  go_ret2
  refine ⟨_, rfl, ?_, below_step HB10.out hb11⟩
  have := HO11.out
  simpa [OwnB, List.append_assoc, setBy] using this
set_option maxRecDepth 100000 in
set_option maxHeartbeats 2000000 in
theorem pencode_no (x : Pp) (w : World) (hx : x.Ok w) (hmay : x.mayB = false) :
    Calls Tryz.prog 15 #[x.v] w fun e w' => e = .returned (.tuple #[.slice none 0 0, .int .i64 3]) ∧ Below w.heap.size w w' := by
  have TM := hide (fun W (h : x.Ok W) => pmay_s x W h)
  rw [hmay] at TM
  have HX := hide hx
  obtain ⟨n, i, rd, SA, sc, ss, CA, cc, cs, UA, uc, us⟩ := x
  unfold Pp.v at *
  simp only at *
  clear hx hmay
  go_enter Tryz.func15, Tryz.ntmps15
  go_wp2_with fail
  (with_reducible refine (TM.out _ (HX.out.step (by repeat (first | exact Below.refl _ _ | assumption | refine bel_al ?_ _ | refine bel_gw ?_ _ _ | refine bel_drew ?_ | refine bel_drewN ?_ _)))).mono ?_)
  rintro e w1 ⟨rfl, hb⟩
  obtain ⟨⟨d1, os1⟩, rfl⟩ := gw_of_below hb
  clear hb
  go_wp2
  go_ret2
  exact ⟨rfl, (by repeat (first | exact Below.refl _ _ | assumption | refine bel_al ?_ _ | refine bel_gw ?_ _ _ | refine bel_drew ?_ | refine bel_drewN ?_ _))⟩
end Go.Proofs.YtdmjopokclljlaaGreat

namespace Go.Proofs.YtdmjopokclljlaaGreat
set_option linter.unusedSimpArgs false
set_option linter.unusedVariables false
set_option linter.unusedSectionVars false
open Go.RowKit

abbrev Pp.cls (x : Pp) : Array Value := csP x.n x.i x.rd x.SA x.ss.length x.sc x.CA x.cs.length x.cc x.UA x.us.length x.uc
/-- while it is read -/
structure DP (w : World) (g B nb : Nat) (x : Pp) (s : RS) (W : World) : Prop where
  k0 : BoxAt W w.heap.size #[.int .i64 0, .int .u64 0, .int .u64 0, .slice none 0 0, .slice none 0 0, .slice none 0 0] 43
  kn : BoxAt W nb x.cls 43
  rd : Rds W g B s.1 s.2
  os : OwnP W (nb + 1) (.slice x.SA x.ss.length x.sc) x.ss
  oc : OwnP W (nb + 1) (.slice x.CA x.cs.length x.cc) x.cs
  ou : W.ownsRow (nb + 1) 22 1 (.slice x.UA x.us.length x.uc) x.us.length (ucs x.us)
  ns : ∀ r, (Value.slice x.UA x.us.length x.uc).ownBlock = some r → (Value.slice x.SA x.ss.length x.sc).ownBlock ≠ some r ∧ (Value.slice x.CA x.cs.length x.cc).ownBlock ≠ some r
  hB : Below w.heap.size w W
  h1 : w.heap.size < g
  h2 : g < B
  h4 : B ≤ nb
  hl : s.1.length ≤ 1000000
section
variable {w W W' : World} {g B nb : Nat} {x x' : Pp} {s s' : RS}
theorem DP.read (h : DP w g B nb x s W) (hG : W.grownBy W' (some g)) (hR : Rds W' g B s'.1 s'.2) (hl : s'.1.length ≤ s.1.length) : DP w g B nb x s' W' := by
  obtain ⟨k0, kn, rd, os, oc, ou, ns, hB, h1, h2, h4, h5⟩ := h
  exact ⟨k0.grown hG (by omega), kn.grown hG (by omega), hR, own_grown os hG (by omega), own_grown oc hG (by omega), own_grown ou hG (by omega), ns, hB.trans (grown_to_below hG (by omega) hB.size), h1, h2, h4, by omega⟩
theorem DP.below (h : DP w g B nb x s W) (hb : Below W.heap.size W W') : DP w g B nb x s W' := by
  obtain ⟨k0, kn, rd, os, oc, ou, ns, hB, h1, h2, h4, h5⟩ := h
  exact ⟨k0.step hb, kn.step hb, rd.step hb, own_below os hb (Nat.le_refl _), own_below oc hb (Nat.le_refl _), own_below ou hb (Nat.le_refl _), ns, below_step hB hb, h1, h2, h4, h5⟩
theorem DP.set (h : DP w g B nb x s W) (hG : W.grownBy W' (some nb)) (kn' : BoxAt W' nb x'.cls 43) (os' : OwnP W (nb + 1) (.slice x'.SA x'.ss.length x'.sc) x'.ss) (oc' : OwnP W (nb + 1) (.slice x'.CA x'.cs.length x'.cc) x'.cs) (hu : x'.UA = none ∧ x'.uc = 0 ∧ x'.us = []) : DP w g B nb x' s W' := by
  obtain ⟨k0, kn, rd, os, oc, ou, ns, hB, h1, h2, h4, h5⟩ := h
  obtain ⟨u1, u2, u3⟩ := hu
  have hk := kn.lt
  refine ⟨k0.grown hG (by omega), kn', rd.below (grown_to_below hG (by omega) (by omega)), own_grown os' hG (by omega), own_grown oc' hG (by omega), ?_, ?_, hB.trans (grown_to_below hG (by omega) hB.size), h1, h2, h4, h5⟩
  · rw [u1, u2, u3]; exact World.ownsRow_nil _ _ _ _
  · rw [u1, u2, u3]; intro r hr; simp [Value.ownBlock] at hr
/-- a number is appended, and stored -/
theorem DP.app (h : DP w g B nb x s W) {v : Value} {u : Int} {A : Option Addr} {c : Nat} (hv : v = .slice A (x.us.length + 1) c) (ho : W'.ownsRow (nb + 1) 22 1 v (x.us.length + 1) (ucs x.us ++ ucs [u])) (hg : W.grownBy W' (Value.slice x.UA x.us.length x.uc).ownBlock) (ha : v.ownBlock = (Value.slice x.UA x.us.length x.uc).ownBlock ∨ v.ownBlock = some W.heap.size) :
    BoxAt W' nb x.cls 43 ∧ DP w g B nb ⟨x.n, x.i, x.rd, x.SA, x.sc, x.ss, x.CA, x.cc, x.cs, A, c, x.us ++ [u]⟩ s (W'.setCell ⟨nb, 5, none⟩ v) := by
  obtain ⟨k0, kn, rd, os, oc, ou, ns, hB, h1, h2, h4, h5⟩ := h
  have hlo : ∀ k, (Value.slice x.UA x.us.length x.uc).ownBlock = some k → nb + 1 ≤ k := fun k hk => (ou.lt k hk).1
  have hk := kn.lt
  have hbb : Below (nb + 1) W W' := grown_belowB hg (by omega) hlo
  have kn' := kn.stepN hbb (by omega)
  have hgs := grown_setCell W' nb 5 v
  have os' := own_apart os hg (fun r hr e => (ns r e).1 hr)
  have oc' := own_apart oc hg (fun r hr e => (ns r e).2 hr)
  have hsz := hbb.size
  refine ⟨kn', ⟨(k0.stepN hbb (by omega)).set (by omega), ⟨?_⟩, ?_, own_grown os' hgs (by omega), own_grown oc' hgs (by omega), ?_, ?_, ?_, h1, h2, h4, h5⟩⟩
  · subst hv
    rw [setCell_block _ _ _ _ _ _ kn'.eq]
    simp [Pp.cls]
  · exact (rd.below (hbb.mono (by omega))).below (grown_to_below hgs (by omega) (by omega))
  · subst hv
    rw [List.length_append, ucs_app]; exact own_grown ho hgs (by omega)
  · subst hv
    simp only [List.length_append, List.length_singleton]
    intro r hr
    rcases ha with e | e
    · rw [e] at hr; exact ns r hr
    · rw [e] at hr
      injection hr with hr
      subst hr
      exact ⟨fun e => by have := (os.lt _ e).2; omega, fun e => by have := (oc.lt _ e).2; omega⟩
  · exact (hB.trans (hbb.mono (by omega))).trans (grown_to_below hgs (by omega) (by omega))
end
theorem set6 {w : World} {n : Nat} {c0 c1 c2 c3 c4 c5 : Value} {t : TypeId} (k : BoxAt w n #[c0, c1, c2, c3, c4, c5] t) (d0 d1 d2 d3 d4 d5 : Value) :
    BoxAt ((((((w.setCell ⟨n, 0, none⟩ d0).setCell ⟨n, 1, none⟩ d1).setCell ⟨n, 2, none⟩ d2).setCell ⟨n, 3, none⟩ d3).setCell ⟨n, 4, none⟩ d4).setCell ⟨n, 5, none⟩ d5) n #[d0, d1, d2, d3, d4, d5] t ∧ w.grownBy ((((((w.setCell ⟨n, 0, none⟩ d0).setCell ⟨n, 1, none⟩ d1).setCell ⟨n, 2, none⟩ d2).setCell ⟨n, 3, none⟩ d3).setCell ⟨n, 4, none⟩ d4).setCell ⟨n, 5, none⟩ d5) (some n) :=
  ⟨setB1 (i := 5) (v := d5) (setB1 (i := 4) (v := d4) (setB1 (i := 3) (v := d3) (setB1 (i := 2) (v := d2) (setB1 (i := 1) (v := d1) (setB1 (i := 0) (v := d0) k))))), grown_trans (grown_trans (grown_trans (grown_trans (grown_trans (grown_setCell _ _ _ _) (grown_setCell _ _ _ _)) (grown_setCell _ _ _ _)) (grown_setCell _ _ _ _)) (grown_setCell _ _ _ _)) (grown_setCell _ _ _ _)⟩
def Pp.at (x : Pp) (SA : Option Addr) (sc : Nat) (CA : Option Addr) (cc : Nat) (UA : Option Addr) (uc : Nat) : Pp := ⟨x.n, x.i, x.rd, SA, sc, x.ss, CA, cc, x.cs, UA, uc, x.us⟩
abbrev pp0 : Pp := ⟨0, 0, 0, none, 0, [], none, 0, [], none, 0, []⟩
theorem pp0_ok (w : World) : pp0.Ok w := ⟨Reads.none_, by simp, Reads.none_, by simp, Reads.none_, by simp⟩
/-- a proposal, in new memory, and an error's number -/
def RetPp (w : World) (x : Pp) (err : Int) (e : Ending) (w' : World) : Prop := ∃ SA sc CA cc UA uc, e = .returned (.tuple #[(x.at SA sc CA cc UA uc).v, .int .i64 err]) ∧ Pp.Ok w' (x.at SA sc CA cc UA uc) ∧ Below w.heap.size w w'
def finP (x : Pp) (s : RS) : Option Pp := if s.2 = true ∨ 0 < s.1.length then none else if x.mayB = false then none else some x
def RetDecP (w : World) : Option Pp → Ending → World → Prop
  | none => RetPp w pp0 3
  | some x => RetPp w x 0
theorem RetDecP.no {w w' : World} (hb : Below w.heap.size w w') : RetDecP w none (.returned (.tuple #[.agg #[.int .i64 0, .int .u64 0, .int .u64 0, .slice none 0 0, .slice none 0 0, .slice none 0 0], .int .i64 3])) w' :=
  ⟨none, 0, none, 0, none, 0, rfl, pp0_ok w', hb⟩
/-- what is read, behind the kind -/
def rPp (s : RS) : Pp × RS :=
  let b := rGet s
  let c := rUint b.2
  let d := rGetSet 4 c.2
  let e := rGetSet 6 d.2
  let f := rUints e.1.length e.2 []
  (⟨b.1.1, b.1.2, c.1, none, 0, d.1, none, 0, e.1, none, 0, f.1⟩, f.2)
/-- the proposal whose bytes these are -/
def decP (bs : List Int) : Option Pp := if (rU8 (bs, false)).1 ≠ 6 then none else finP (rPp (rU8 (bs, false)).2).1 (rPp (rU8 (bs, false)).2).2
set_option maxRecDepth 100000 in
set_option maxHeartbeats 4000000 in
theorem pdec_no (A : Option Addr) (c : Nat) (bs : List Int) (w : World) (hr : Reads w w.heap.size 1 A bs.length (bcs bs)) (hn : bs.length ≤ 1000000) (hok : bOK bs) (k : Int) (s : RS) (hu : rU8 (bs, false) = (k, s)) (hk : k ≠ 6) :
    Calls Tryz.prog 19 #[.slice A bs.length c] w (RetDecP w none) := by
  have T1 := hide (newReader_s A c bs _ ((Reads.below hr (below_alloc w (bxP 0 0 0 none 0 0 none 0 0 none 0 0))).more (by simp)) hn hok)
  have T2 : Hid (∀ g B W, Rds W g B bs false → Calls Tryz.prog 49 #[.pointer (some ⟨g, 0, none⟩)] W (RetR g B W (.int .u8 k) s)) := hide (fun g B W h => by
    have := u8R_s g B (bs, false) W h
    rw [hu] at this; exact this)
  have hk6 : (k != 6) = true := by simpa using hk
  clear hr hu hk
  go_enter Tryz.func19, Tryz.ntmps19
  go_wp2_with fail
  with_reducible refine T1.out.mono ?_
  rintro e w1 ⟨g, rfl, hg, hR1, hb1⟩
  have p0 := (boxTop w #[.int .i64 0, .int .u64 0, .int .u64 0, .slice none 0 0, .slice none 0 0, .slice none 0 0] 43).step hb1
  have hB1 := below_step (below_alloc w (bxP 0 0 0 none 0 0 none 0 0 none 0 0)) hb1
  simp only [World.size_alloc] at hg
  have T3 := hide (T2.out g _ _ hR1)
  clear T1 T2 hb1 hR1
  go_wp2_with fail
  with_reducible refine T3.out.mono ?_
  rintro e w2 ⟨rfl, hR2, hG2⟩
  replace p0 := p0.grown hG2 (by omega)
  have hB2 := hB1.trans (grown_to_below hG2 (by omega) hB1.size)
  haveI := p0
  obtain ⟨k6, g6⟩ := set6 p0 (.int .i64 0) (.int .u64 0) (.int .u64 0) (.slice none 0 0) (.slice none 0 0) (.slice none 0 0)
  have HB6 := hide (hB2.trans (grown_to_below g6 (Nat.le_refl _) hB2.size))
  clear hR2 hG2 hB1 hB2 p0 T3
  go_wp2
  generalize (((((w2.setCell ⟨w.heap.size, 0, none⟩ (.int .i64 0)).setCell ⟨w.heap.size, 1, none⟩ (.int .u64 0)).setCell ⟨w.heap.size, 2, none⟩ (.int .u64 0)).setCell ⟨w.heap.size, 3, none⟩ (.slice none 0 0)).setCell ⟨w.heap.size, 4, none⟩ (.slice none 0 0)).setCell ⟨w.heap.size, 5, none⟩ (.slice none 0 0) = W6 at k6 HB6 ⊢
  haveI := k6
  refine bodyPost_ret (v := .tuple #[.agg #[.int .i64 0, .int .u64 0, .int .u64 0, .slice none 0 0, .slice none 0 0, .slice none 0 0], .int .i64 3]) (by simp [results, Tryz.results19, go_sem]) rfl ?_
  exact RetDecP.no HB6.out
set_option maxRecDepth 100000 in
set_option maxHeartbeats 8000000 in
theorem pdec_yes (A : Option Addr) (c : Nat) (bs : List Int) (w : World) (hr : Reads w w.heap.size 1 A bs.length (bcs bs)) (hn : bs.length ≤ 1000000) (hok : bOK bs) (s s1 s2 s3 s4 s5 : RS) (pn pi rd : Int) (l1 l2 : List Pr) (us : List Int) (e1 : rGet s = ((pn, pi), s1)) (e2 : rUint s1 = (rd, s2)) (e3 : rGetSet 4 s2 = (l1, s3)) (e4 : rGetSet 6 s3 = (l2, s4)) (e5 : rUints l2.length s4 [] = (us, s5)) (hl1 : l1.length ≤ 4) (hl2 : l2.length ≤ 6) (hu : rU8 (bs, false) = (6, s)) :
    Calls Tryz.prog 19 #[.slice A bs.length c] w (RetDecP w (finP ⟨pn, pi, rd, none, 0, l1, none, 0, l2, none, 0, us⟩ s5)) := by
  have T1 := hide (newReader_s A c bs _ ((Reads.below hr (below_alloc w (bxP 0 0 0 none 0 0 none 0 0 none 0 0))).more (by simp)) hn hok)
  have T2 : Hid (∀ g B W, Rds W g B bs false → Calls Tryz.prog 49 #[.pointer (some ⟨g, 0, none⟩)] W (RetR g B W (.int .u8 6) s)) := hide (fun g B W h => by
    have := u8R_s g B (bs, false) W h
    rw [hu] at this; exact this)
  have hlen0 := rU8_len (bs, false)
  rw [hu] at hlen0
  simp only at hlen0
  have HE5 := hide e5
  clear hr hu e5
  go_enter Tryz.func19, Tryz.ntmps19
  go_wp2_with fail
  with_reducible refine T1.out.mono ?_
  rintro e w1 ⟨g, rfl, hg, hR1, hb1⟩
  have p0 := (boxTop w #[.int .i64 0, .int .u64 0, .int .u64 0, .slice none 0 0, .slice none 0 0, .slice none 0 0] 43).step hb1
  have hB1 := below_step (below_alloc w (bxP 0 0 0 none 0 0 none 0 0 none 0 0)) hb1
  simp only [World.size_alloc] at hg
  have hgt := hR1.top
  have hle1 := hR1.le
  have T3 := hide (T2.out g _ _ hR1)
  clear T1 T2 hb1 hR1
  generalize hBB : w1.heap.size = B at T3 hgt hle1
  have hBB' : B ≤ w1.heap.size := by omega
  clear hBB
  go_wp2_with fail
  with_reducible refine T3.out.mono ?_
  rintro e w2 ⟨rfl, hR2, hG2⟩
  obtain ⟨nb, hnb⟩ : ∃ nb, nb = w2.heap.size := ⟨_, rfl⟩
  have hs2 := hG2.size
  have D0 : DP w g B nb ⟨0, 0, 0, none, 0, [], none, 0, [], none, 0, []⟩ s (w2.alloc (bxP 0 0 0 none 0 0 none 0 0 none 0 0)) := by
    rw [hnb]
    refine ⟨(p0.grown hG2 (by omega)).alloc' _, boxTop w2 _ _, hR2.step (below_alloc _ _), World.ownsRow_nil _ _ _ _, World.ownsRow_nil _ _ _ _, World.ownsRow_nil _ _ _ _, by simp [Value.ownBlock],
      below_step (hB1.trans (grown_to_below hG2 (by omega) hB1.size)) (below_alloc _ _), by omega, hgt, by omega, by show s.1.length ≤ _; omega⟩
  haveI : BoxAt (w2.alloc (bxP 0 0 0 none 0 0 none 0 0 none 0 0)) w2.heap.size #[.int .i64 0, .int .u64 0, .int .u64 0, .slice none 0 0, .slice none 0 0, .slice none 0 0] 43 := by have := D0.kn; rw [hnb] at this; exact this
  have HNB := hide hnb
  clear hR2 hG2 p0 hB1 T3 hnb
  go_wp2_with fail
  rw [← HNB.out]
  have T3 := hide (getP_s g B s _ D0.rd D0.hl)
  have hll3 := rGet_len s
  rw [e1] at T3 hll3
  simp only at T3 hll3
  with_reducible refine T3.out.mono ?_
  rintro e v3 ⟨rfl, hR, hG⟩
  have hkl := D0.kn.lt
  have D1 := D0.read (s' := s1) hG hR hll3
  haveI : BoxAt v3 nb #[.int .i64 0, .int .u64 0, .int .u64 0, .slice none 0 0, .slice none 0 0, .slice none 0 0] 43 := D1.kn
  clear D0 T3 hll3
  have hkl1 := D1.kn.lt
  have D13 : DP w g B nb ⟨pn, pi, 0, none, 0, [], none, 0, [], none, 0, []⟩ s1 ((v3.setCell ⟨nb, 0, none⟩ (.int .i64 pn)).setCell ⟨nb, 1, none⟩ (.int .u64 pi)) := D1.set (grown_trans (grown_setCell v3 nb 0 (.int .i64 pn)) (grown_setCell (v3.setCell ⟨nb, 0, none⟩ (.int .i64 pn)) nb 1 (.int .u64 pi))) (setB1 (i := 1) (v := .int .u64 pi) (setB1 (i := 0) (v := .int .i64 pn) D1.kn)) D1.os D1.oc ⟨rfl, rfl, rfl⟩
  haveI : BoxAt ((v3.setCell ⟨nb, 0, none⟩ (.int .i64 pn)).setCell ⟨nb, 1, none⟩ (.int .u64 pi)) nb #[.int .i64 pn, .int .u64 pi, .int .u64 0, .slice none 0 0, .slice none 0 0, .slice none 0 0] 43 := D13.kn
  have E0 := D1.k0
  haveI := E0
  clear hR hG D1 hkl hkl1
  go_wp2_with fail
  generalize ((v3.setCell ⟨nb, 0, none⟩ (.int .i64 pn)).setCell ⟨nb, 1, none⟩ (.int .u64 pi)) = x4 at D13 ⊢
  have T4 := hide (uintR_s g B s1 _ D13.rd D13.hl)
  have hll4 := rUint_len s1
  rw [e2] at T4 hll4
  simp only at T4 hll4
  with_reducible refine T4.out.mono ?_
  rintro e v4 ⟨rfl, hR, hG⟩
  have hkl := D13.kn.lt
  have D1 := D13.read (s' := s2) hG hR hll4
  haveI : BoxAt v4 nb #[.int .i64 pn, .int .u64 pi, .int .u64 0, .slice none 0 0, .slice none 0 0, .slice none 0 0] 43 := D1.kn
  clear D13 T4 hll4
  have hkl1 := D1.kn.lt
  have D14 : DP w g B nb ⟨pn, pi, rd, none, 0, [], none, 0, [], none, 0, []⟩ s2 (v4.setCell ⟨nb, 2, none⟩ (.int .u64 rd)) := D1.set (grown_setCell v4 nb 2 (.int .u64 rd)) (setB1 (i := 2) (v := .int .u64 rd) D1.kn) D1.os D1.oc ⟨rfl, rfl, rfl⟩
  haveI : BoxAt (v4.setCell ⟨nb, 2, none⟩ (.int .u64 rd)) nb #[.int .i64 pn, .int .u64 pi, .int .u64 rd, .slice none 0 0, .slice none 0 0, .slice none 0 0] 43 := D14.kn
  have E0 := D1.k0
  haveI := E0
  clear hR hG D1 hkl hkl1
  go_wp2_with fail
  generalize (v4.setCell ⟨nb, 2, none⟩ (.int .u64 rd)) = x5 at D14 ⊢
  have T5 := hide (show Calls Tryz.prog 52 #[.pointer (some ⟨g, 0, none⟩), .int .i64 4] _ (RetRP g B _ (rGetSet 4 s2).1 (rGetSet 4 s2).2) from getSet_s g B 4 s2 _ D14.rd D14.hl (by omega))
  have hll5 := rGetSet_len 4 s2
  rw [e3] at T5 hll5
  simp only at T5 hll5
  with_reducible refine T5.out.mono ?_
  rintro e v5 ⟨vv, rfl, ho, hR, hG⟩
  have hkl := D14.kn.lt
  have D1 := D14.read (s' := s3) hG hR hll5
  haveI : BoxAt v5 nb #[.int .i64 pn, .int .u64 pi, .int .u64 rd, .slice none 0 0, .slice none 0 0, .slice none 0 0] 43 := D1.kn
  obtain ⟨A4, c4, rfl, _, _⟩ := own_slice ho
  clear D14 T5 hll5
  have hkl1 := D1.kn.lt
  have D15 : DP w g B nb ⟨pn, pi, rd, A4, c4, l1, none, 0, [], none, 0, []⟩ s3 (v5.setCell ⟨nb, 3, none⟩ (.slice A4 l1.length c4)) := D1.set (grown_setCell v5 nb 3 (.slice A4 l1.length c4)) (setB1 (i := 3) (v := .slice A4 l1.length c4) D1.kn) (own_base ho (by omega)) D1.oc ⟨rfl, rfl, rfl⟩
  haveI : BoxAt (v5.setCell ⟨nb, 3, none⟩ (.slice A4 l1.length c4)) nb #[.int .i64 pn, .int .u64 pi, .int .u64 rd, .slice A4 l1.length c4, .slice none 0 0, .slice none 0 0] 43 := D15.kn
  have E0 := D1.k0
  haveI := E0
  clear hR hG D1 hkl hkl1 ho
  go_wp2_with fail
  generalize (v5.setCell ⟨nb, 3, none⟩ (.slice A4 l1.length c4)) = x6 at D15 ⊢
  have T6 := hide (show Calls Tryz.prog 52 #[.pointer (some ⟨g, 0, none⟩), .int .i64 6] _ (RetRP g B _ (rGetSet 6 s3).1 (rGetSet 6 s3).2) from getSet_s g B 6 s3 _ D15.rd D15.hl (by omega))
  have hll6 := rGetSet_len 6 s3
  rw [e4] at T6 hll6
  simp only at T6 hll6
  with_reducible refine T6.out.mono ?_
  rintro e v6 ⟨vv, rfl, ho, hR, hG⟩
  have hkl := D15.kn.lt
  have D1 := D15.read (s' := s4) hG hR hll6
  haveI : BoxAt v6 nb #[.int .i64 pn, .int .u64 pi, .int .u64 rd, .slice A4 l1.length c4, .slice none 0 0, .slice none 0 0] 43 := D1.kn
  obtain ⟨A5, c5, rfl, _, _⟩ := own_slice ho
  clear D15 T6 hll6
  have hkl1 := D1.kn.lt
  have D16 : DP w g B nb ⟨pn, pi, rd, A4, c4, l1, A5, c5, l2, none, 0, []⟩ s4 (v6.setCell ⟨nb, 4, none⟩ (.slice A5 l2.length c5)) := D1.set (grown_setCell v6 nb 4 (.slice A5 l2.length c5)) (setB1 (i := 4) (v := .slice A5 l2.length c5) D1.kn) D1.os (own_base ho (by omega)) ⟨rfl, rfl, rfl⟩
  haveI : BoxAt (v6.setCell ⟨nb, 4, none⟩ (.slice A5 l2.length c5)) nb #[.int .i64 pn, .int .u64 pi, .int .u64 rd, .slice A4 l1.length c4, .slice A5 l2.length c5, .slice none 0 0] 43 := D16.kn
  have E0 := D1.k0
  haveI := E0
  clear hR hG D1 hkl hkl1 ho
  have HD := hide D16
  have hkn := D16.kn.lt
  clear D16
  go_wp2
  go_loopw [27] (fun j wr => ∃ (m : Nat) (UA : Option Addr) (uc : Nat) (L : List Int) (sk : RS), m ≤ l2.length ∧ j = .int .i64 m ∧ L.length = m ∧ rUints l2.length s4 [] = rUints (l2.length - m) sk L ∧ DP w g B nb ⟨pn, pi, rd, A4, c4, l1, A5, c5, l2, UA, uc, L⟩ sk wr) (fun j _ => l2.length - (intOf j).toNat)
  case atStart => exact ⟨0, none, 0, [], s4, Nat.zero_le _, rfl, rfl, by rw [Nat.sub_zero], HD.out⟩
  case round =>
    obtain ⟨m, UA, uc, L, sk, hm, rfl, hLm, hrun, V⟩ := hrel
    have HRUN := hide hrun
    have HL := hide hLm
    have HV := hide V
    clear hrun hLm HD
    by_cases hlt : m < l2.length
    · have T7 := hide (fun W (hW : Rds W g B sk.1 sk.2) => uintR_s g B sk W hW V.hl)
      have hlen := rUint_len sk
      have hstep : Hid (rUints (l2.length - m) sk L = rUints (l2.length - (m + 1)) (rUint sk).2 (L ++ [(rUint sk).1])) := by
        rw [show l2.length - m = (l2.length - (m + 1)) + 1 by omega, rUints]; exact hide rfl
      generalize rUint sk = r4 at T7 hstep hlen
      obtain ⟨x, s6⟩ := r4
      simp only at T7 hstep hlen
      have Vd := V.below (show Below wr.heap.size wr wr.drew from (Below.refl _ _).drew)
      haveI : BoxAt wr nb #[.int .i64 pn, .int .u64 pi, .int .u64 rd, .slice A4 l1.length c4, .slice A5 l2.length c5, .slice UA L.length uc] 43 := V.kn
      haveI : BoxAt wr.drew nb #[.int .i64 pn, .int .u64 pi, .int .u64 rd, .slice A4 l1.length c4, .slice A5 l2.length c5, .slice UA L.length uc] 43 := Vd.kn
      clear V
      go_wp2
      go_region_law (first
        | (go_simp; go_at_call 51; (with_reducible refine (T7.out _ Vd.rd).mono ?_); rintro e w3 ⟨rfl, hR3, hG3⟩; have V3 := Vd.read (s' := s6) hG3 hR3 hlen; have V3b := V3.below (below_alloc w3 (.cells #[.int .u64 x] 22)); haveI : BoxAt w3 nb #[.int .i64 pn, .int .u64 pi, .int .u64 rd, .slice A4 l1.length c4, .slice A5 l2.length c5, .slice UA L.length uc] 43 := V3.kn; have hs3 := V3.kn.lt)
        | (refine step_append_any _ Tryz.okU rfl (.tmp 30) (.tmp 33) rfl (nb + 1) (.slice UA L.length uc) L.length (ucs L) (by simp [Act.eval, Act.put]) V3b.ou (w3.heap.size + 1) (some ⟨w3.heap.size, 0, none⟩) 1 1 (ucs [x]) (by simp [Act.eval, Act.put]) (reads_oneU w3 x) (uc_one _) (by unfold maxLen; have := HL.out; omega) (by have := HL.out; omega) (by simp; omega) ?_; intro v5 w5 ho5 hg5 hn5 ha5; obtain ⟨A6, c6, rfl, _, _⟩ := own_slice ho5; obtain ⟨kv5, V5⟩ := V3b.app rfl ho5 hg5 ha5; haveI : BoxAt w5 nb #[.int .i64 pn, .int .u64 pi, .int .u64 rd, .slice A4 l1.length c4, .slice A5 l2.length c5, .slice UA L.length uc] 43 := kv5))
      all_goals
        have HV5 := hide V5
        clear V3 V3b Vd V5 ho5 hg5 hn5 ha5 hR3 hG3 T7 HV
        go_wp2
        go_roundw
        case rel => exact ⟨m + 1, _, _, L ++ [x], s6, by omega, by go_num, by have := HL.out; simp; omega, HRUN.out.trans hstep.out, HV5.out⟩
        case measure => simp [intOf]; omega
    · obtain rfl : m = l2.length := by omega
      have hus : (L, sk) = (us, s5) := by
        have := HRUN.out
        rw [HE5.out, Nat.sub_self, rUints] at this
        exact this.symm
      injection hus with hus1 hus2
      subst hus1 hus2
      obtain ⟨bs4, bad4⟩ := sk
      have hLl := HL.out
      have T5 := hide (endR_s g _ (bs4, bad4) wr V.rd V.hl)
      have hok4 : Pp.Ok wr ⟨pn, pi, rd, A4, c4, l1, A5, c5, l2, UA, uc, L⟩ := ⟨Reads.of_own V.os, by show l1.length ≤ 1000000; omega, Reads.of_own V.oc, by show l2.length ≤ 1000000; omega, Reads.of_own V.ou, by show L.length ≤ 1000000; omega⟩
      have T6 := hide (fun W (h : Pp.Ok W ⟨pn, pi, rd, A4, c4, l1, A5, c5, l2, UA, uc, L⟩) => pmay_s ⟨pn, pi, rd, A4, c4, l1, A5, c5, l2, UA, uc, L⟩ W h)
      unfold Pp.v at T6
      simp only at T5 T6
      have key : (bad4 = true ∨ 0 < bs4.length) ∨ (¬ (bad4 = true ∨ 0 < bs4.length) ∧ Pp.mayB ⟨pn, pi, rd, A4, c4, l1, A5, c5, l2, UA, uc, L⟩ = false) ∨ (¬ (bad4 = true ∨ 0 < bs4.length) ∧ Pp.mayB ⟨pn, pi, rd, A4, c4, l1, A5, c5, l2, UA, uc, L⟩ = true) := by
        by_cases h : bad4 = true ∨ 0 < bs4.length
        · exact .inl h
        · cases h2 : Pp.mayB ⟨pn, pi, rd, A4, c4, l1, A5, c5, l2, UA, uc, L⟩
          · exact .inr (.inl ⟨h, rfl⟩)
          · exact .inr (.inr ⟨h, rfl⟩)
      have HOK4 := hide hok4
      clear hok4 HV hLl HL HRUN HE5
      rcases key with hk1 | ⟨hk1, hk2⟩ | ⟨hk1, hk2⟩
      · rw [if_pos hk1] at T5
        have HF : Hid (finP ⟨pn, pi, rd, none, 0, l1, none, 0, l2, none, 0, L⟩ (bs4, bad4) = none) := hide (show (if bad4 = true ∨ 0 < bs4.length then none else _) = none from if_pos hk1)
        clear hk1
        go_wp2_with fail
        with_reducible refine T5.out.mono ?_
        rintro e w5 ⟨rfl, hR5, hG5⟩
        have D5 := V.read (s' := (bs4, bad4 || decide (0 < bs4.length))) hG5 hR5 (Nat.le_refl _)
        haveI := D5.k0
        obtain ⟨k6, g6⟩ := set6 D5.k0 (.int .i64 0) (.int .u64 0) (.int .u64 0) (.slice none 0 0) (.slice none 0 0) (.slice none 0 0)
        have HB6 := hide (D5.hB.trans (grown_to_below g6 (Nat.le_refl _) D5.hB.size))
        clear V D5 hR5 hG5 T5 T6
        go_wp2
        generalize (((((w5.setCell ⟨w.heap.size, 0, none⟩ (.int .i64 0)).setCell ⟨w.heap.size, 1, none⟩ (.int .u64 0)).setCell ⟨w.heap.size, 2, none⟩ (.int .u64 0)).setCell ⟨w.heap.size, 3, none⟩ (.slice none 0 0)).setCell ⟨w.heap.size, 4, none⟩ (.slice none 0 0)).setCell ⟨w.heap.size, 5, none⟩ (.slice none 0 0) = W6 at k6 HB6 ⊢
        haveI := k6
        refine bodyPost_ret (v := .tuple #[.agg #[.int .i64 0, .int .u64 0, .int .u64 0, .slice none 0 0, .slice none 0 0, .slice none 0 0], .int .i64 3]) (by simp [results, Tryz.results19, go_sem]) rfl ?_
        rw [HF.out]
        exact RetDecP.no HB6.out
      · rw [if_neg hk1] at T5
        have HF : Hid (finP ⟨pn, pi, rd, none, 0, l1, none, 0, l2, none, 0, L⟩ (bs4, bad4) = none) := hide ((if_neg hk1).trans (if_pos hk2))
        rw [hk2] at T6
        clear hk1 hk2
        go_wp2_with fail
        with_reducible refine T5.out.mono ?_
        rintro e w5 ⟨rfl, hR5, hG5⟩
        have D5 := V.read (s' := (bs4, bad4 || decide (0 < bs4.length))) hG5 hR5 (Nat.le_refl _)
        haveI : BoxAt w5 nb #[.int .i64 pn, .int .u64 pi, .int .u64 rd, .slice A4 l1.length c4, .slice A5 l2.length c5, .slice UA L.length uc] 43 := D5.kn
        have ok5 : Pp.Ok w5 ⟨pn, pi, rd, A4, c4, l1, A5, c5, l2, UA, uc, L⟩ := ⟨Reads.of_own D5.os, HOK4.out.sl, Reads.of_own D5.oc, HOK4.out.cl, Reads.of_own D5.ou, HOK4.out.ul⟩
        clear V hR5 hG5 T5
        go_wp2_with fail
        (with_reducible refine (T6.out _ ok5).mono ?_)
        rintro e w7 ⟨rfl, hb7⟩
        have D7 := D5.below hb7
        haveI := D7.k0
        obtain ⟨k6, g6⟩ := set6 D7.k0 (.int .i64 0) (.int .u64 0) (.int .u64 0) (.slice none 0 0) (.slice none 0 0) (.slice none 0 0)
        have HB6 := hide (D7.hB.trans (grown_to_below g6 (Nat.le_refl _) D7.hB.size))
        clear D5 D7 T6 ok5 hb7
        go_wp2
        generalize (((((w7.setCell ⟨w.heap.size, 0, none⟩ (.int .i64 0)).setCell ⟨w.heap.size, 1, none⟩ (.int .u64 0)).setCell ⟨w.heap.size, 2, none⟩ (.int .u64 0)).setCell ⟨w.heap.size, 3, none⟩ (.slice none 0 0)).setCell ⟨w.heap.size, 4, none⟩ (.slice none 0 0)).setCell ⟨w.heap.size, 5, none⟩ (.slice none 0 0) = W6 at k6 HB6 ⊢
        haveI := k6
        refine bodyPost_ret (v := .tuple #[.agg #[.int .i64 0, .int .u64 0, .int .u64 0, .slice none 0 0, .slice none 0 0, .slice none 0 0], .int .i64 3]) (by simp [results, Tryz.results19, go_sem]) rfl ?_
        rw [HF.out]
        exact RetDecP.no HB6.out
      · rw [if_neg hk1] at T5
        have HF : Hid (finP ⟨pn, pi, rd, none, 0, l1, none, 0, l2, none, 0, L⟩ (bs4, bad4) = some ⟨pn, pi, rd, none, 0, l1, none, 0, l2, none, 0, L⟩) := hide ((if_neg hk1).trans (if_neg (by intro h; have h' : Pp.mayB ⟨pn, pi, rd, A4, c4, l1, A5, c5, l2, UA, uc, L⟩ = false := h; rw [hk2] at h'; cases h')))
        rw [hk2] at T6
        clear hk1 hk2
        go_wp2_with fail
        with_reducible refine T5.out.mono ?_
        rintro e w5 ⟨rfl, hR5, hG5⟩
        have D5 := V.read (s' := (bs4, bad4 || decide (0 < bs4.length))) hG5 hR5 (Nat.le_refl _)
        haveI : BoxAt w5 nb #[.int .i64 pn, .int .u64 pi, .int .u64 rd, .slice A4 l1.length c4, .slice A5 l2.length c5, .slice UA L.length uc] 43 := D5.kn
        have ok5 : Pp.Ok w5 ⟨pn, pi, rd, A4, c4, l1, A5, c5, l2, UA, uc, L⟩ := ⟨Reads.of_own D5.os, HOK4.out.sl, Reads.of_own D5.oc, HOK4.out.cl, Reads.of_own D5.ou, HOK4.out.ul⟩
        clear V hR5 hG5 T5
        go_wp2_with fail
        (with_reducible refine (T6.out _ ok5).mono ?_)
        rintro e w7 ⟨rfl, hb7⟩
        have D7 := D5.below hb7
        haveI := D7.k0
        haveI : BoxAt w7 nb #[.int .i64 pn, .int .u64 pi, .int .u64 rd, .slice A4 l1.length c4, .slice A5 l2.length c5, .slice UA L.length uc] 43 := D7.kn
        obtain ⟨k6, g6⟩ := set6 D7.k0 (.int .i64 pn) (.int .u64 pi) (.int .u64 rd) (.slice A4 l1.length c4) (.slice A5 l2.length c5) (.slice UA L.length uc)
        have HB6 := hide (D7.hB.trans (grown_to_below g6 (Nat.le_refl _) D7.hB.size))
        have hh1 := D7.h1
        have hh2 := D7.h2
        have hh4 := D7.h4
        have HQ1 := hide (own_grown D7.os g6 (by omega))
        have HQ2 := hide (own_grown D7.oc g6 (by omega))
        have HQ3 := hide (own_grown D7.ou g6 (by omega))
        clear D5 D7 hb7 T6 ok5
        go_wp2
        generalize (((((w7.setCell ⟨w.heap.size, 0, none⟩ (.int .i64 pn)).setCell ⟨w.heap.size, 1, none⟩ (.int .u64 pi)).setCell ⟨w.heap.size, 2, none⟩ (.int .u64 rd)).setCell ⟨w.heap.size, 3, none⟩ (.slice A4 l1.length c4)).setCell ⟨w.heap.size, 4, none⟩ (.slice A5 l2.length c5)).setCell ⟨w.heap.size, 5, none⟩ (.slice UA L.length uc) = W6 at k6 HB6 HQ1 HQ2 HQ3 ⊢
        haveI := k6
        refine bodyPost_ret (v := .tuple #[.agg #[.int .i64 pn, .int .u64 pi, .int .u64 rd, .slice A4 l1.length c4, .slice A5 l2.length c5, .slice UA L.length uc], .int .i64 0]) (by simp [results, Tryz.results19, go_sem]) rfl ?_
        rw [HF.out]
        exact ⟨_, _, _, _, _, _, rfl, ⟨Reads.of_own HQ1.out, HOK4.out.sl, Reads.of_own HQ2.out, HOK4.out.cl, Reads.of_own HQ3.out, HOK4.out.ul⟩, HB6.out⟩
theorem pdecode_s (A : Option Addr) (c : Nat) (bs : List Int) (w : World) (hr : Reads w w.heap.size 1 A bs.length (bcs bs)) (hn : bs.length ≤ 1000000) (hok : bOK bs) :
    Calls Tryz.prog 19 #[.slice A bs.length c] w (RetDecP w (decP bs)) := by
  unfold decP
  generalize hu : rU8 (bs, false) = a
  obtain ⟨k, s⟩ := a
  simp only
  by_cases hk : k = 6
  · subst hk
    rw [if_neg (by simp)]
    have m1 := rGetSet_most 4 (rUint (rGet s).2).2
    have m2 := rGetSet_most 6 (rGetSet 4 (rUint (rGet s).2).2).2
    exact pdec_yes A c bs w hr hn hok s _ _ _ _ _ _ _ _ _ _ _ rfl rfl rfl rfl rfl m1 m2 hu
  · rw [if_pos hk]
    exact pdec_no A c bs w hr hn hok k s hu hk
end Go.Proofs.YtdmjopokclljlaaGreat

namespace Go.Proofs.YtdmjopokclljlaaGreat
set_option linter.unusedSimpArgs false
set_option linter.unusedVariables false
set_option linter.unusedSectionVars false
open Go.RowKit

def Pp.bare (x : Pp) : Pp := x.at none 0 none 0 none 0
/-- what is asked of the numbers -/
structure PpF (x : Pp) : Prop where
  i : wfU64 x.i
  rd : wfU64 x.rd
  ss : ∀ p ∈ x.ss, wfU64 p.2
  cs : ∀ p ∈ x.cs, wfU64 p.2
  us : ∀ u ∈ x.us, wfU64 u
theorem pmayB_id {x : Pp} (h : x.mayB = true) : mayB x.n x.i = true := by
  obtain ⟨_, _, h3, _, h5, _⟩ := mayB_facts h
  exact setB_may h3 (x.n, x.i) h5
theorem setBy_back' (l : List Pr) (rest : List Int) (most : Nat) (hl : l.length ≤ most) (hm : most < 256) (hs : setB l = true) (hw : ∀ p ∈ l, wfU64 p.2) : rGetSet most (setBy l ++ rest, false) = (l, (rest, false)) :=
  rGetSet_back l rest most (by omega) hl hs (fun p hp => ⟨setB_may hs p hp, (hw p hp).2⟩)
theorem rPp_back (x : Pp) (rest : List Int) (hm : x.mayB = true) (hf : PpF x) : rPp (procB (x.n, x.i) ++ (uintB x.rd ++ (setBy x.ss ++ (setBy x.cs ++ (uintsB x.us ++ rest)))), false) = (x.bare, (rest, false)) := by
  obtain ⟨h1, h2, h3, h4, h5, h6, h7, h8, h9, h10, h11⟩ := mayB_facts hm
  have hid := pmayB_id hm
  obtain ⟨n, i, rd, SA, sc, ss, CA, cc, cs, UA, uc, us⟩ := x
  obtain ⟨f1, f2, f3, f4, f5⟩ := hf
  simp only at *
  unfold rPp
  simp only [rGet_back (n, i) _ hid f1.2, rUint_back rd _ f2.1 f2.2, setBy_back' ss _ 4 h2 (by omega) h3 f3, setBy_back' cs _ 6 h7 (by omega) h8 f4]
  rw [← h10, rUints_back us [] rest f5]
  rfl
theorem pbare_may (x : Pp) : x.bare.mayB = x.mayB := rfl
theorem pbare_enc (x : Pp) : x.bare.enc = x.enc := rfl
theorem penc_app (x : Pp) (rest : List Int) : x.enc ++ rest = 6 :: (procB (x.n, x.i) ++ (uintB x.rd ++ (setBy x.ss ++ (setBy x.cs ++ (uintsB x.us ++ rest))))) := by
  simp [Pp.enc, List.append_assoc]
theorem decP_app (x : Pp) (rest : List Int) (hm : x.mayB = true) (hf : PpF x) : decP (x.enc ++ rest) = finP x.bare (rest, false) := by
  unfold decP
  rw [penc_app, rU8_cons]
  simp only [rPp_back x rest hm hf]
  rw [if_neg (by simp)]
theorem decP_back (x : Pp) (hm : x.mayB = true) (hf : PpF x) : decP x.enc = some x.bare := by
  have := decP_app x [] hm hf
  rw [List.append_nil] at this
  rw [this]
  unfold finP
  simp [pbare_may, hm]
theorem decP_more (x : Pp) (more : List Int) (hm : x.mayB = true) (hf : PpF x) (h : more ≠ []) : decP (x.enc ++ more) = none := by
  rw [decP_app x more hm hf]
  unfold finP
  rw [if_pos]
  right
  exact List.length_pos_iff.2 h
/-- whatever is read was written -/
theorem rPp_inv {s : RS} (hok : bOK s.1) (h : (rPp s).2.2 = false) : s.2 = false ∧ s.1 = procB ((rPp s).1.n, (rPp s).1.i) ++ (uintB (rPp s).1.rd ++ (setBy (rPp s).1.ss ++ (setBy (rPp s).1.cs ++ (uintsB (rPp s).1.us ++ (rPp s).2.1)))) ∧ PpF (rPp s).1 ∧ (rPp s).1.bare = (rPp s).1 := by
  unfold rPp at h ⊢
  simp only at h ⊢
  have g5 := h
  have g4 := rUints_ok _ _ _ g5
  have g3 := rGetSet_ok g4
  have g2 := rGetSet_ok g3
  have g1 := rUint_ok g2
  have g0 := rGet_ok g1
  obtain ⟨a1, a2, a3⟩ := rGet_inv hok g1
  have b1 : bOK (rGet s).2.1 := by have := hok; rw [a1] at this; exact this.right
  have c1 := rUint_inv (x := (rUint (rGet s).2).1) (rest := (rUint (rGet s).2).2.1) b1 (by rw [rs_eta g1] at g2 ⊢; exact rs_mk g2)
  have b2 : bOK (rUint (rGet s).2).2.1 := by have := b1; rw [c1.1] at this; exact this.right
  obtain ⟨d1, d2, d3, d4, d5⟩ := rGetSet_inv b2 g3
  have b3 : bOK (rGetSet 4 (rUint (rGet s).2).2).2.1 := by
    intro b hb; apply b2; rw [d1]; simp [hb]
  obtain ⟨e1, e2, e3, e4, e5⟩ := rGetSet_inv b3 g4
  have b4 : bOK (rGetSet 6 (rGetSet 4 (rUint (rGet s).2).2).2).2.1 := by
    intro b hb; apply b3; rw [e1]; simp [hb]
  obtain ⟨m, k1, k2, k3, k4⟩ := rUints_inv _ _ [] b4 g5
  rw [List.nil_append] at k1
  refine ⟨g0, ?_, ⟨a3, c1.2, fun p hp => (d5 p hp).2, fun p hp => (e5 p hp).2, by rw [k1]; exact k4⟩, rfl⟩
  rw [k1]
  conv => lhs; rw [a1, c1.1, d1, e1, k3]
  simp [setBy, List.append_assoc]
theorem decP_inv {bs : List Int} {y : Pp} (hok : bOK bs) (h : decP bs = some y) : y.mayB = true ∧ y.enc = bs ∧ PpF y ∧ y.bare = y := by
  unfold decP at h
  split at h
  · cases h
  · rename_i hk
    unfold finP at h
    split at h
    · cases h
    · rename_i h1
      split at h
      · cases h
      · rename_i h2
        injection h with h
        have hb : (rPp (rU8 (bs, false)).2).2.2 = false := by simpa using (not_or.1 h1).1
        have hl : (rPp (rU8 (bs, false)).2).2.1 = [] := List.eq_nil_of_length_eq_zero (by have := (not_or.1 h1).2; omega)
        have hk6 : (rU8 (bs, false)).1 = 6 := by simpa using hk
        have hok2 : bOK (rU8 (bs, false)).2.1 := by
          cases bs with
          | nil => exact bOK.nil
          | cons b bs => exact hok.tail
        obtain ⟨p1, p2, p3, p4⟩ := rPp_inv hok2 hb
        have hu := rU8_inv (bs := bs) (x := 6) (rest := (rU8 (bs, false)).2.1) (by rw [← hk6]; exact rs_mk p1)
        rw [hl, List.append_nil] at p2
        subst h
        refine ⟨by simpa using h2, ?_, p3, p4⟩
        exact (congrArg (fun l => (6 : Int) :: l) p2.symm).trans hu.symm
theorem penc_len (x : Pp) (hm : x.mayB = true) : x.enc.length ≤ 320 ∧ 0 < x.enc.length := by
  obtain ⟨h1, h2, h3, h4, h5, h6, h7, h8, h9, h10, h11⟩ := mayB_facts hm
  have q1 := uintB_len x.i
  have q2 := uintB_len x.rd
  have q3 := procsB_len x.ss
  have q4 := procsB_len x.cs
  have q5 := uintsB_len x.us
  simp [Pp.enc, procB, setBy]; omega
theorem setBy_ok {l : List Pr} (h : ∀ p ∈ l, wfU64 p.2) : bOK (setBy l) := by
  intro b hb
  rcases List.mem_cons.1 hb with rfl | hb
  · omega
  · exact procsB_ok h b hb
theorem penc_ok (x : Pp) (hf : PpF x) : bOK x.enc := by
  have b := (procB_ok (p := (x.n, x.i)) hf.i.1 hf.i.2).app ((uintB_ok x.rd hf.rd.1 hf.rd.2).app ((setBy_ok hf.ss).app ((setBy_ok hf.cs).app (uintsB_ok hf.us))))
  intro c hc
  rcases List.mem_cons.1 hc with rfl | hc
  · omega
  · exact b c hc
/-- of a beginning there is none -/
theorem decP_cut (x : Pp) (k : Nat) (hk : k < x.enc.length) (hm : x.mayB = true) (hf : PpF x) : decP (x.enc.take k) = none := by
  cases h : decP (x.enc.take k) with
  | none => rfl
  | some y =>
    exfalso
    have hok : bOK (x.enc.take k) := fun b hb => penc_ok x hf b (List.mem_of_mem_take hb)
    obtain ⟨a1, a2, a3, _⟩ := decP_inv hok h
    have hd : x.enc.drop k ≠ [] := by
      intro e
      have := congrArg List.length e
      simp at this; omega
    have e1 := decP_more y (x.enc.drop k) a1 a3 hd
    rw [a2, List.take_append_drop, decP_back x hm hf] at e1
    cases e1
theorem pbare_eqB (x : Pp) (SA : Option Addr) (sc : Nat) (CA : Option Addr) (cc : Nat) (UA : Option Addr) (uc : Nat) : Pp.eqB (x.bare.at SA sc CA cc UA uc) x = true := by
  simp [Pp.eqB, Pp.bare, Pp.at, eqP]
theorem pp_enc_eq {x y : Pp} (hm : x.mayB = true) (hm' : y.mayB = true) (hf : PpF x) (hf' : PpF y) : x.enc = y.enc ↔ Pp.eqB x y = true := by
  constructor
  · intro h
    have h1 := decP_back x hm hf
    rw [h, decP_back y hm' hf'] at h1
    injection h1 with h1
    have : Pp.eqB x.bare y.bare = true := by rw [← h1]; simp [Pp.eqB, eqP]
    exact this
  · intro h
    have : x.bare = y.bare := by
      obtain ⟨n, i, rd, SA, sc, ss, CA, cc, cs, UA, uc, us⟩ := x
      obtain ⟨n', i', rd', SA', sc', ss', CA', cc', cs', UA', uc', us'⟩ := y
      simp [Pp.eqB, eqP] at h
      simp [Pp.bare, Pp.at]
      simp_all
    rw [← pbare_enc x, this, pbare_enc]
/-- its bytes, if it may be -/
theorem pencode_f (x : Pp) (w : World) (hx : x.Ok w) (hf : PpF x) (hm : x.mayB = true) : Calls Tryz.prog 15 #[x.v] w (RetE w x.enc) := by
  obtain ⟨h1, h2, h3, h4, h5, h6, h7, h8, h9, h10, h11⟩ := mayB_facts hm
  exact pencode_s x w hx (by omega) (by omega) (by omega) hf.i hf.rd hf.ss hf.cs hf.us hm
end Go.Proofs.YtdmjopokclljlaaGreat

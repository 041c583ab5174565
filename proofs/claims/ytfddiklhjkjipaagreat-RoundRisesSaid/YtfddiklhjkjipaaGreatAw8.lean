/-
  Layer 18: a server that is alone comes to a view at once: no program in sight.
-/
import Derived.Test.YtfddiklhjkjipaaGreatAgR
import Derived.Test.YtfddiklhjkjipaaGreatOp8
namespace Go.Proofs.YtfddiklhjkjipaaGreat
set_option linter.unusedSimpArgs false
set_option linter.unusedVariables false
set_option linter.unusedSectionVars false
open Go.RowKit

theorem sorted_one (x : Pr) : sortedL [x] = [x] := sortedL_self (List.pairwise_singleton _ _)
def aloneP (n i cn ci cid rd : Int) : Pp := ⟨n, i, rd, none, 0, [(n, i)], none, 0, [(cn, ci)], none, 0, [cid]⟩
def aloneV (n i cn ci cid rd : Int) : Vw := ⟨rd, n, i, none, 0, [(cn, ci)], none, 0, [cid]⟩
theorem alone_eq {n i cn ci cid rd hd : Int} (h1 : togetherB [(n, i)] = true) (h2 : mayR [⟨cn, ci, cid, rd, hd, false⟩] = true) (h3 : 0 ≤ cid) (h4 : cid < um) (h5 : 0 ≤ rd) (h6 : rd + 1 < um) (hw : wfP (cn, ci)) :
    renewP (newA n i) [(n, i)] [⟨cn, ci, cid, rd, hd, false⟩] =
      (⟨n, i, rd + 1, none, 0, [(n, i)], none, 0, [⟨cn, ci, cid + 1, rd, hd, false⟩], none, 0, [(cn, ci)], none, 0, [aloneP n i cn ci (cid + 1) (rd + 1)], true, false, aloneV n i cn ci (cid + 1) (rd + 1)⟩,
       ⟨none, 0, [startT ⟨n, i, rd + 1, none, 0, [(n, i)], none, 0, [⟨cn, ci, cid + 1, rd, hd, false⟩], none, 0, [(cn, ci)], none, 0, [], false, false, vw0⟩ (cn, ci) (cid + 1), comeT (cn, ci) (aloneV n i cn ci (cid + 1) (rd + 1))], true, aloneP n i cn ci (cid + 1) (rd + 1), true, aloneV n i cn ci (cid + 1) (rd + 1)⟩) := by
  have hm2 : mayR [⟨cn, ci, cid + 1, rd, hd, false⟩] = true := by
    rw [mayR_iff] at h2 ⊢
    refine ⟨by unfold rising; exact List.pairwise_singleton _ _, fun x hx => ?_, by simp⟩
    rw [List.mem_singleton.1 hx]
    exact (h2.2.1 ⟨cn, ci, cid, rd, hd, false⟩ (List.mem_singleton.2 rfl) : mayB cn ci = true)
  have hc : mostL { newA n i with ss := [(n, i)], cl := [⟨cn, ci, cid, rd, hd, false⟩] } = rd := by
    unfold mostL
    simp only [takenR_of h2]
    simp [newA, thereL, maxR]
    omega
  have hup : upU rd = rd + 1 := by unfold upU um at *; rw [if_neg (by omega)]
  have hr : raiseR (takenR [(⟨cn, ci, cid, rd, hd, false⟩ : Cl)]) = ([⟨cn, ci, cid + 1, rd, hd, false⟩], true) := by
    rw [takenR_of h2]
    unfold raiseR
    rw [if_neg (by simp [raiB]; unfold um at h4; omega)]
    simp [upC]
  have hI : Ag.Inv { newA n i with ss := [(n, i)], cl := [⟨cn, ci, cid, rd, hd, false⟩] } := (new_inv n i).with h1 (List.mem_singleton.2 rfl) h2 (fun x hx => by
    rw [List.mem_singleton.1 hx]
    exact ⟨hw, h3, Int.le_of_lt h4, h5, by show rd ≤ um; omega⟩)
  have hp := propose_yes (a := { newA n i with ss := [(n, i)], cl := [⟨cn, ci, cid, rd, hd, false⟩] }) (t := tu0) (n := rd + 1) (by
    rw [show (raiseR (takenR ({ newA n i with ss := [(n, i)], cl := [(⟨cn, ci, cid, rd, hd, false⟩ : Cl)] } : Ag).cl)).2 = true from by rw [hr]]
    rintro (e | e | e)
    · omega
    · have e : rd + 1 = um := e
      omega
    · cases e)
  have hw1 := hI.sole (by rw [hr]) rfl (rd + 1)
  have hb : begunA { newA n i with ss := [(n, i)], cl := [⟨cn, ci, cid, rd, hd, false⟩] } (rd + 1) = ⟨n, i, rd + 1, none, 0, [(n, i)], none, 0, [⟨cn, ci, cid + 1, rd, hd, false⟩], none, 0, [], none, 0, [], false, false, vw0⟩ := by
    unfold begunA
    rw [hr]
    rfl
  rw [hb] at hw1
  have ht : toldA (begunA { newA n i with ss := [(n, i)], cl := [⟨cn, ci, cid, rd, hd, false⟩] } (rd + 1)) = ⟨n, i, rd + 1, none, 0, [(n, i)], none, 0, [⟨cn, ci, cid + 1, rd, hd, false⟩], none, 0, [(cn, ci)], none, 0, [], false, false, vw0⟩ := by
    rw [hb]
    unfold toldA
    rw [hw1]
    rfl
  have hmy : myP ⟨n, i, rd + 1, none, 0, [(n, i)], none, 0, [⟨cn, ci, cid + 1, rd, hd, false⟩], none, 0, [(cn, ci)], none, 0, [], false, false, vw0⟩ = aloneP n i cn ci (cid + 1) (rd + 1) := rfl
  have hmay : (aloneP n i cn ci (cid + 1) (rd + 1)).mayB = true := by
    rw [← hmy]
    exact myP_may h1 (List.mem_singleton.2 rfl) (by show 0 < rd + 1; omega) hm2 (fun x hx => by
      obtain ⟨h8, _⟩ := there_gone hx
      rw [List.mem_singleton.1 h8]
      show 0 < cid + 1
      omega)
  have hag : agreeB [aloneP n i cn ci (cid + 1) (rd + 1)] = true := by
    rw [agreeB_iff]
    refine ⟨by simp, by simp, rd + 1, [(n, i)], rfl, fun p hp => ?_, ?_⟩
    · rw [List.mem_singleton.1 hp]; exact ⟨hmay, rfl, rfl⟩
    · exact sorted_one (n, i)
  have hvw : viewP [aloneP n i cn ci (cid + 1) (rd + 1)] = some ((rd + 1, n, i), [(cn, ci)], [cid + 1]) := by
    unfold viewP
    rw [if_neg (by rw [hag]; simp), if_neg (by simp [clsP, aloneP, livesB])]
    have e : clsP [aloneP n i cn ci (cid + 1) (rd + 1)] = [(cn, ci)] := by simp [clsP, aloneP]
    rw [e, sorted_one]
    simp [aloneP, prs, lookL]
  have hown : ownL ⟨n, i, rd + 1, none, 0, [(n, i)], none, 0, [⟨cn, ci, cid + 1, rd, hd, false⟩], none, 0, [(cn, ci)], none, 0, [aloneP n i cn ci (cid + 1) (rd + 1)], false, false, vw0⟩ = [(cn, ci)] := by
    unfold ownL
    rw [takenR_of hm2]
    rfl
  unfold renewP
  rw [if_neg (by rw [h1, h2]; simp [newA, Ag.sv])]
  simp only
  rw [hc, hup, hp, ht]
  have hput : putA ⟨n, i, rd + 1, none, 0, [(n, i)], none, 0, [⟨cn, ci, cid + 1, rd, hd, false⟩], none, 0, [(cn, ci)], none, 0, [], false, false, vw0⟩ = ⟨n, i, rd + 1, none, 0, [(n, i)], none, 0, [⟨cn, ci, cid + 1, rd, hd, false⟩], none, 0, [(cn, ci)], none, 0, [aloneP n i cn ci (cid + 1) (rd + 1)], false, false, vw0⟩ := rfl
  rw [hput]
  have hpl : propsL ⟨n, i, rd + 1, none, 0, [(n, i)], none, 0, [⟨cn, ci, cid + 1, rd, hd, false⟩], none, 0, [(cn, ci)], none, 0, [aloneP n i cn ci (cid + 1) (rd + 1)], false, false, vw0⟩ = some [aloneP n i cn ci (cid + 1) (rd + 1)] := by
    simp [propsL, propsG, aloneP, Pp.sv]
  have ha : agree1 ⟨n, i, rd + 1, none, 0, [(n, i)], none, 0, [⟨cn, ci, cid + 1, rd, hd, false⟩], none, 0, [(cn, ci)], none, 0, [aloneP n i cn ci (cid + 1) (rd + 1)], false, false, vw0⟩ (sentT ⟨n, i, rd + 1, none, 0, [(n, i)], none, 0, [⟨cn, ci, cid + 1, rd, hd, false⟩], none, 0, [(cn, ci)], none, 0, [], false, false, vw0⟩ tu0) = ((⟨n, i, rd + 1, none, 0, [(n, i)], none, 0, [⟨cn, ci, cid + 1, rd, hd, false⟩], none, 0, [(cn, ci)], none, 0, [aloneP n i cn ci (cid + 1) (rd + 1)], true, false, aloneV n i cn ci (cid + 1) (rd + 1)⟩,
       ⟨none, 0, [startT ⟨n, i, rd + 1, none, 0, [(n, i)], none, 0, [⟨cn, ci, cid + 1, rd, hd, false⟩], none, 0, [(cn, ci)], none, 0, [], false, false, vw0⟩ (cn, ci) (cid + 1), comeT (cn, ci) (aloneV n i cn ci (cid + 1) (rd + 1))], true, aloneP n i cn ci (cid + 1) (rd + 1), true, aloneV n i cn ci (cid + 1) (rd + 1)⟩), false) := by
    unfold agree1
    rw [if_neg (by simp), hpl]
    simp only
    rw [if_neg (by rw [hag]; simp), if_neg (by simp [strange, aloneP]), hvw]
    simp only
    rw [hown]
    rfl
  unfold agreeP
  rw [ha]
  rfl
end Go.Proofs.YtfddiklhjkjipaaGreat

namespace Go.Proofs.YtfddiklhjkjipaaGreat
set_option linter.unusedSimpArgs false
set_option linter.unusedVariables false
set_option linter.unusedSectionVars false
open Go.RowKit

theorem life18_s (n i : Int) (w : World) : Calls Tryz.prog 11 #[.int .i64 n, .int .u64 i] w fun e w' => e = .returned (.agg #[.int .i64 n, .int .u64 i]) ∧ w.alloc (bx n i) = w' := by
  go_enter Tryz.func11, Tryz.ntmps11
  go_wp2
  refine bodyPost_ret (v := .agg #[.int .i64 n, .int .u64 i]) (by simp [results, Tryz.results11, go_sem]) rfl ?_
  exact ⟨rfl, rfl⟩
theorem reads_c1x (W : World) (m : Nat) (x : Cl) [h : BoxAt W m #[.int .i64 x.n, .int .u64 x.i, .int .u64 x.cid, .int .u64 x.rnd, .int .u64 x.heard, .bool x.gone] 48] : Reads W W.heap.size 6 (some ⟨m, 0, none⟩) 1 (ccs [x]) :=
  ⟨rfl, fun _ => ⟨_, _, rfl, h.lt, fun j u hu => by
    rw [Nat.zero_add, cell?_box]
    have e : ccs [x] = (#[.int .i64 x.n, .int .u64 x.i, .int .u64 x.cid, .int .u64 x.rnd, .int .u64 x.heard, .bool x.gone] : Array Value).toList := rfl
    rw [e] at hu
    simpa using hu⟩⟩
set_option maxRecDepth 100000 in
set_option maxHeartbeats 16000000 in
theorem awake18_t (w : World) : Calls Tryz.prog 10 #[] w (RetB w true) := by
  have TN := hide (fun W => @new18_s (avo []) 1 1 W (by intro i hi; cases hi))
  have TR := hide (fun (a : Ag) (A : Option Addr) (c : Nat) (B : Option Addr) (d : Nat) W (ha : a.br = newA 1 1) (h : @Ag.Ok (avo []) W a) (hS : Reads W W.heap.size 2 A 1 (pcs [(1, 1)])) (hL : Reads W W.heap.size 6 B 1 (ccs [⟨5, 2, 4, 7, 0, false⟩])) => (by exact renew_s [] a A c [(1, 1)] B d [⟨5, 2, 4, 7, 0, false⟩] W h (by intro i hi; cases hi) (by rw [ha]; exact new_inv 1 1) hS (by simp) hL (by simp) (fun x hx => by rw [List.mem_singleton.1 hx]; exact ⟨⟨by decide, by decide, by decide, by decide⟩, by decide, by decide, by decide, by decide⟩) : Calls Tryz.prog 12 #[a.v, .slice A 1 c, .agg #[.slice B 1 d]] W (RetAT [] W (renewP a.br [(1, 1)] [⟨5, 2, 4, 7, 0, false⟩]))))
  have HAL := hide (alone_eq (n := 1) (i := 1) (cn := 5) (ci := 2) (cid := 4) (rd := 7) (hd := 0) (by decide +kernel) (by decide +kernel) (by decide) (by decide) (by decide) (by decide) ⟨by decide, by decide, by decide, by decide⟩)
  go_enter Tryz.func10, Tryz.ntmps10
  go_wp2_with (go_at_call 11; (with_reducible refine (life18_s _ _ _).mono ?_); rintro e w9 ⟨rfl, rfl⟩)
  (with_reducible refine (TN.out _).mono ?_)
  rintro e w1 ⟨a, ha, rfl, hok, hb1⟩
  haveI : Stp _ w1 := ⟨hb1⟩
  have HA := hide ha
  have HOK := hide hok
  clear ha hok hb1 TN
  go_wp2_with (go_at_call 11; (with_reducible refine (life18_s _ _ _).mono ?_); rintro e w9 ⟨rfl, rfl⟩)
  (with_reducible refine (TR.out a _ _ _ _ _ HA.out ?_ ?_ ?_).mono ?_)
  · exact HOK.out.over (.bel blw)
  · exact reads_p1x _ _ 1 1
  · exact reads_c1x _ _ ⟨5, 2, 4, 7, 0, false⟩
  rintro e w5 ⟨b, u, hb, hu, rfl, hbo, huo, hb5⟩
  rw [HA.out, HAL.out] at hb hu
  haveI : Stp _ w5 := ⟨hb5⟩
  have h1 : b.rd = 8 := congrArg Ag.rd hb
  have h2 : b.dn = true := congrArg Ag.dn hb
  have h3 : u.ts.length = 2 := by have := congrArg (fun u : Tu => u.ts.length) hu; simpa [Tu.br] using this
  have h4 : u.md = true := congrArg Tu.md hu
  have h5 : u.sd = true := congrArg Tu.sd hu
  have h6 : u.vw.us = [5] := congrArg (fun u : Tu => u.vw.us) hu
  obtain ⟨huo1, huo2⟩ := huo
  obtain ⟨_, _, _, hv⟩ := huo1
  obtain ⟨_, _, hvu, _⟩ := hv
  have hus := hvu.1
  have h7 : u.vw.us.length = 1 := by rw [h6]; rfl
  rw [h6] at hus
  obtain ⟨bb, off, x, hA, hbb, hx, hc⟩ := Reads.atU (k := 0) hus (by simp)
  obtain rfl : x = 5 := by simpa using hx.symm
  haveI : InW bb w5 := ⟨hbb⟩
  haveI : CellAt w5 bb (off + 0) (.int .u64 5) := ⟨hbb, hc⟩
  clear hb hu hbo huo2 hvu hus hb5 h6 hx hc TR HAL
  go_wp2_with fail
  go_ret
  exact ⟨rfl, blw⟩
end Go.Proofs.YtfddiklhjkjipaaGreat

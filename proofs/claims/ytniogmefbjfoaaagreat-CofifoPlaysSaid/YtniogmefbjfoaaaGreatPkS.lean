/-
  Two rows of bytes are the same just if their strings are.
-/
import Derived.Test.YtniogmefbjfoaaaGreatTcL
import Derived.Test.YtniogmefbjfoaaaGreatPkL
namespace Go.Proofs.YtniogmefbjfoaaaGreat
set_option linter.unusedSimpArgs false
set_option linter.unusedVariables false
set_option linter.unusedSectionVars false
open Go.RowKit

theorem kstr_inj {a b : List Int} (ha : bOK a) (hb : bOK b) (h : (strOfNums a).toList = (strOfNums b).toList) : a = b := by
  have h1 : a.map (fun n => UInt8.ofNat n.toNat) = b.map (fun n => UInt8.ofNat n.toNat) := by
    rw [← strOfNums_data, ← strOfNums_data, ← ByteArray.toList_eq, ← ByteArray.toList_eq, h]
  clear h
  induction a generalizing b with
  | nil => cases b with
    | nil => rfl
    | cons y b => simp at h1
  | cons x a ih => cases b with
    | nil => simp at h1
    | cons y b =>
      simp only [List.map_cons, List.cons.injEq] at h1
      obtain ⟨x0, x1⟩ := ha x (by simp)
      obtain ⟨y0, y1⟩ := hb y (by simp)
      have h3 := congrArg UInt8.toNat h1.1
      simp only [UInt8.toNat_ofNat'] at h3
      rw [Nat.mod_eq_of_lt (by omega), Nat.mod_eq_of_lt (by omega)] at h3
      have e : x = y := by omega
      rw [e, ih (fun z hz => ha z (by simp [hz])) (fun z hz => hb z (by simp [hz])) h1.2]
theorem str_ne {a b : List Int} (ha : bOK a) (hb : bOK b) : ((strOfNums a).toList != (strOfNums b).toList) = !decide (a = b) := by
  by_cases h : a = b
  · subst h; simp
  · have : ¬ (strOfNums a).toList = (strOfNums b).toList := fun e => h (kstr_inj ha hb e)
    simp [h, this]
theorem str_eq {a b : List Int} (ha : bOK a) (hb : bOK b) : ((strOfNums a).toList == (strOfNums b).toList) = decide (a = b) := by
  have := str_ne ha hb
  simp only [bne] at this
  simpa using congrArg (fun x => !x) this
end Go.Proofs.YtniogmefbjfoaaaGreat

namespace Go.Proofs.YtniogmefbjfoaaaGreat
set_option linter.unusedSimpArgs false
set_option linter.unusedVariables false
set_option linter.unusedSectionVars false
open Go.RowKit

theorem Tryz.stoodH : Tryz.prog.stoodInHeld 93 = false := by kernel_rfl
theorem Tryz.guardH : Tryz.prog.eqGuardType Tryz.prog.depth 93 = false := by kernel_rfl
def eqH (a b c d a' b' c' d' : Int) : Bool := decide (a = a' ∧ b = b' ∧ c = c' ∧ d = d')
theorem equalInH (a b c d a' b' c' d' : Int) (w : World) : (Op.equalIn 10000 93 (.agg #[.int .i64 a, .int .u64 b, .int .u64 c, .int .u64 d]) (.agg #[.int .i64 a', .int .u64 b', .int .u64 c', .int .u64 d'])).run Tryz.prog w = .ok (eqH a b c d a' b' c' d') w := by
  have hu := Tryz.underlying93
  have hs := Tryz.stoodH
  unfold eqH
  by_cases h1 : a = a' <;> by_cases h2 : b = b' <;> by_cases h3 : c = c' <;> by_cases h4 : d = d' <;> simp [go_sem, hs, h1, h2, h3, h4]
@[go_sem ↓] theorem neqH (a b c d a' b' c' d' : Int) (w : World) : (binOp .neq 93 (.agg #[.int .i64 a, .int .u64 b, .int .u64 c, .int .u64 d]) (.agg #[.int .i64 a', .int .u64 b', .int .u64 c', .int .u64 d'])).run Tryz.prog w = .ok (.bool (!eqH a b c d a' b' c' d')) w := by
  rw [run_neq_struct, equalInH]; rfl
@[go_sem ↓] theorem eqGuardH (op : BinOp) (x y : Operand) (xs ys : Array Value) (w : World) : (eqGuard op 93 x y (.agg xs) (.agg ys)).run Tryz.prog w = .ok () w := run_eqGuard_agg w op _ x y xs ys Tryz.guardH
theorem eqH_iff (p q : Hd) : eqH p.d p.c p.s p.i q.d q.c q.s q.i = decide (p = q) := by
  obtain ⟨a, b, c, d⟩ := p
  obtain ⟨a', b', c', d'⟩ := q
  simp [eqH]
set_option maxRecDepth 100000 in
set_option maxHeartbeats 2000000 in
theorem sadv_s (an ai sq : Int) (PA : Option Addr) (pcp : Nat) (ps : List Pr) (an' ai' sq' : Int) (PA' : Option Addr) (pcp' : Nat) (ps' : List Pr) (w : World) (h : Sl w PA ps) (h' : Sl w PA' ps') (hl : ps.length ≤ 1000000) (hl' : ps'.length ≤ 1000000) :
    Calls Tryz.prog 51 #[.agg #[.int .i64 an, .int .u64 ai, .int .u64 sq, .slice PA ps.length pcp], .agg #[.int .i64 an', .int .u64 ai', .int .u64 sq', .slice PA' ps'.length pcp']] w (RetB w (eqP an ai an' ai' && ((sq == sq') && decide (ps = ps')))) := by
  have TE := hide (fun W (h : Sl W PA ps) (h' : Sl W PA' ps') => refEqual_any PA PA' pcp pcp' ps ps' W h h' hl hl')
  have H := hide h
  have H' := hide h'
  clear h h'
  cases f1 : eqP an ai an' ai'
  · go_enter Tryz.func51, Tryz.ntmps51
    go_wp2_with (go_at_call 75; (with_reducible refine (TE.out _ H.out.tc H'.out.tc).mono ?_); rintro e w1 ⟨rfl, hb⟩; haveI : Stp _ w1 := ⟨hb⟩; clear hb)
    go_ret
    exact ⟨ret_b (by simp), blw⟩
  · cases f2 : (sq == sq')
    · go_enter Tryz.func51, Tryz.ntmps51
      go_wp2_with (go_at_call 75; (with_reducible refine (TE.out _ H.out.tc H'.out.tc).mono ?_); rintro e w1 ⟨rfl, hb⟩; haveI : Stp _ w1 := ⟨hb⟩; clear hb)
      go_ret
      exact ⟨ret_b (by simp), blw⟩
    · go_enter Tryz.func51, Tryz.ntmps51
      go_wp2_with (go_at_call 75; (with_reducible refine (TE.out _ H.out.tc H'.out.tc).mono ?_); rintro e w1 ⟨rfl, hb⟩; haveI : Stp _ w1 := ⟨hb⟩; clear hb)
      go_ret
      exact ⟨ret_b (by simp), blw⟩
section
variable (k n i hp : Int) (HA : Option Addr) (hcp : Nat) (hs : List Hd) (BA : Option Addr) (bcp : Nat) (bs : List Int) (an ai sq : Int) (PA : Option Addr) (pcp : Nat) (ps : List Pr)
variable (k' n' i' hp' : Int) (HA' : Option Addr) (hcp' : Nat) (hs' : List Hd) (BA' : Option Addr) (bcp' : Nat) (bs' : List Int) (an' ai' sq' : Int) (PA' : Option Addr) (pcp' : Nat) (ps' : List Pr)
def eqKB : Bool := !(k != k') && (eqP n i n' i' && (!(hp != hp') && (!((hs.length : Int) != (hs'.length : Int)) && (decide (bs = bs') && (decide (hs = hs') && (eqP an ai an' ai' && ((sq == sq') && decide (ps = ps'))))))))
set_option maxRecDepth 100000 in
set_option maxHeartbeats 8000000 in
theorem ksame_s (w : World) (h4 : Reads w w.heap.size 4 HA hs.length (hcs hs)) (h1 : Reads w w.heap.size 1 BA bs.length (bcs bs)) (h2 : Sl w PA ps) (h4' : Reads w w.heap.size 4 HA' hs'.length (hcs hs')) (h1' : Reads w w.heap.size 1 BA' bs'.length (bcs bs')) (h2' : Sl w PA' ps') (hl : hs.length ≤ 1000000) (hl' : hs'.length ≤ 1000000) (hpl : ps.length ≤ 1000000) (hpl' : ps'.length ≤ 1000000) (ok : bOK bs) (ok' : bOK bs') :
    Calls Tryz.prog 27 #[PkV k n i hp HA hs.length hcp BA bs.length bcp an ai sq PA ps.length pcp, PkV k' n' i' hp' HA' hs'.length hcp' BA' bs'.length bcp' an' ai' sq' PA' ps'.length pcp'] w (RetB w (eqKB k n i hp hs bs an ai sq ps k' n' i' hp' hs' bs' an' ai' sq' ps')) := by
  have TA := hide (fun W (h : Sl W PA ps) (h' : Sl W PA' ps') => sadv_s an ai sq PA pcp ps an' ai' sq' PA' pcp' ps' W h h' hpl hpl')
  have HS := hide h2
  have HS' := hide h2'
  have hst := str_ne ok ok'
  have hst2 := str_eq ok ok'
  haveI : Src w HA hs.length 4 (hcs hs) := ⟨h4⟩
  haveI : Src w HA' hs'.length 4 (hcs hs') := ⟨h4'⟩
  haveI : RdY w BA bs.length bs := ⟨h1⟩
  haveI : RdY w BA' bs'.length bs' := ⟨h1'⟩
  unfold eqKB
  clear h4 h1 h2 h4' h1' h2' ok ok'
  cases f1 : (k != k')
  · cases f2 : eqP n i n' i'
    · go_enter Tryz.func27, Tryz.ntmps27
      go_wp2
      go_ret
      exact ⟨ret_b (by simp), blw⟩
    · cases f3 : (hp != hp')
      · cases f4 : ((hs.length : Int) != (hs'.length : Int))
        · cases f5 : decide (bs = bs')
          · rw [f5] at hst hst2
            go_enter Tryz.func27, Tryz.ntmps27
            go_wp2
            go_ret
            exact ⟨ret_b (by simp), blw⟩
          · rw [f5] at hst hst2
            have hlen : hs.length = hs'.length := by have := f4; simp at this; omega
            have HLEN := hide hlen
            simp only [Bool.not_true] at hst
            clear hlen
            go_enter Tryz.func27, Tryz.ntmps27
            go_wp2
            go_loopw [5] (fun j wr => ∃ m : Nat, m ≤ hs.length ∧ j = .int .i64 m ∧ Below w.heap.size w wr ∧ BoxAt wr w.heap.size (csK k n i hp HA hs.length hcp BA bs.length bcp an ai sq PA ps.length pcp) 43 ∧ BoxAt wr (w.heap.size + 1) (csK k' n' i' hp' HA' hs'.length hcp' BA' bs'.length bcp' an' ai' sq' PA' ps'.length pcp') 43 ∧ hs.take m = hs'.take m) (fun j _ => hs.length - (intOf j).toNat)
            case atStart => exact ⟨0, Nat.zero_le _, rfl, blw, inferInstance, inferInstance, rfl⟩
            case round =>
              obtain ⟨m, hm, rfl, hB, hbx, hbx', htk⟩ := hrel
              haveI : Blw w wr := ⟨hB⟩
              haveI := hbx
              haveI := hbx'
              have HN := hide htk
              clear htk hB
              by_cases hlt : m < hs.length
              · have hlt' : m < hs'.length := by have := HLEN.out; omega
                obtain ⟨b, off, p, rfl, hb, hp1, g1, g2, g3, g4⟩ := (show Reads wr w.heap.size 4 HA hs.length (hcs hs) from srcB).at4 hlt
                obtain ⟨b', off', p', rfl, hb', hp1', e1, e2, e3, e4⟩ := (show Reads wr w.heap.size 4 HA' hs'.length (hcs hs') from srcB).at4 hlt'
                have HP := hide hp1
                have HP' := hide hp1'
                haveI : InW b wr := ⟨Nat.lt_of_lt_of_le hb (Blw.h (a := w) (W := wr)).size⟩
                haveI : InW b' wr := ⟨Nat.lt_of_lt_of_le hb' (Blw.h (a := w) (W := wr)).size⟩
                have i0 : (0 : Int) ≤ (m : Int) := by omega
                have i1 : (m : Int) < (hs.length : Int) := by omega
                have i2 : (m : Int) < (hs'.length : Int) := by omega
                clear hp1 hp1'
                cases he : eqH p.d p.c p.s p.i p'.d p'.c p'.s p'.i
                · have H := hide (show ¬ hs = hs' by
                    intro h; subst h
                    have := HP.out.symm.trans HP'.out
                    injection this with this
                    rw [eqH_iff] at he
                    exact absurd this (of_decide_eq_false he))
                  go_wp2
                  go_quiet (fail)
                  go_wp2
                  go_ret
                  exact ⟨ret_b (by simp [H.out]), blw⟩
                · have H := hide (show hs.take (m + 1) = hs'.take (m + 1) by
                    rw [take_succ_of HP.out, take_succ_of HP'.out, HN.out]
                    rw [eqH_iff] at he
                    rw [of_decide_eq_true he])
                  go_wp2
                  go_quiet (fail)
                  go_wp2
                  go_roundw
                  case rel => exact ⟨m + 1, by omega, by go_num, blw, inferInstance, inferInstance, H.out⟩
                  case measure => simp [intOf]; omega
              · have H := hide (show hs = hs' by
                  have := HN.out; have h2 := HLEN.out
                  rwa [List.take_of_length_le (by omega), List.take_of_length_le (by omega)] at this)
                go_wp2_with fail
                (with_reducible refine (TA.out _ HS.out.tc HS'.out.tc).mono ?_)
                rintro e w3 ⟨rfl, hb3⟩
                haveI : Stp _ w3 := ⟨hb3⟩
                clear hb3
                go_wp2
                go_ret
                exact ⟨ret_b (by simp [H.out]), blw⟩
        · go_enter Tryz.func27, Tryz.ntmps27
          go_wp2
          go_ret
          exact ⟨ret_b (by simp), blw⟩
      · go_enter Tryz.func27, Tryz.ntmps27
        go_wp2
        go_ret
        exact ⟨ret_b (by simp), blw⟩
  · go_enter Tryz.func27, Tryz.ntmps27
    go_wp2
    go_ret
    exact ⟨ret_b (by simp), blw⟩
end
theorem eqKB_iff (x y : Pk) : eqKB x.k x.n x.i x.hp x.hs x.bs x.an x.ai x.sq x.ps y.k y.n y.i y.hp y.hs y.bs y.an y.ai y.sq y.ps = true ↔ x = y := by
  obtain ⟨k, n, i, hp, hs, bs, an, ai, sq, ps⟩ := x
  obtain ⟨k', n', i', hp', hs', bs', an', ai', sq', ps'⟩ := y
  simp only [eqKB, Bool.and_eq_true, Bool.not_eq_true', bne_eq_false_iff_eq, eqP, decide_eq_true_eq, beq_iff_eq, Pk.mk.injEq]
  constructor
  · rintro ⟨h1, ⟨h2, h3⟩, h4, h5, h6, h7, ⟨h8, h9⟩, h10, h11⟩
    exact ⟨h1, h2, h3, h4, h7, h6, h8, h9, h10, h11⟩
  · rintro ⟨h1, h2, h3, h4, h7, h6, h8, h9, h10, h11⟩
    exact ⟨h1, ⟨h2, h3⟩, h4, by rw [h7], h6, h7, ⟨h8, h9⟩, h10, h11⟩
theorem ksameP_s (x y : Pk) (HA : Option Addr) (hcp : Nat) (BA : Option Addr) (bcp : Nat) (PA : Option Addr) (pcp : Nat) (HA' : Option Addr) (hcp' : Nat) (BA' : Option Addr) (bcp' : Nat) (PA' : Option Addr) (pcp' : Nat) (w : World) (h : PkIn w x HA BA PA) (h' : PkIn w y HA' BA' PA') (ok : bOK x.bs) (ok' : bOK y.bs) (b : Bool) (hb : b = true ↔ x = y) :
    Calls Tryz.prog 27 #[x.at HA hcp BA bcp PA pcp, y.at HA' hcp' BA' bcp' PA' pcp'] w (RetB w b) := by
  have := ksame_s x.k x.n x.i x.hp HA hcp x.hs BA bcp x.bs x.an x.ai x.sq PA pcp x.ps y.k y.n y.i y.hp HA' hcp' y.hs BA' bcp' y.bs y.an y.ai y.sq PA' pcp' y.ps w h.h h.b h.p h'.h h'.b h'.p h.hl h'.hl h.pl h'.pl ok ok'
  rw [show eqKB x.k x.n x.i x.hp x.hs x.bs x.an x.ai x.sq x.ps y.k y.n y.i y.hp y.hs y.bs y.an y.ai y.sq y.ps = b from by rw [Bool.eq_iff_iff, eqKB_iff, hb]] at this
  exact this
def longB (x : Pk) : Bool := decide (1000 < (x.hs.length : Int)) || (decide (300 < (x.ps.length : Int)) || decide (65536 < (x.bs.length : Int)))
end Go.Proofs.YtniogmefbjfoaaaGreat

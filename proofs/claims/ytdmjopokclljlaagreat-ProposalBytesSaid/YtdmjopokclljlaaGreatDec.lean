/-
  Layer 8: contracts: the closures of notice.Decode.
-/
import Derived.Test.YtdmjopokclljlaaGreatEnc
namespace Go.Proofs.YtdmjopokclljlaaGreat
set_option linter.unusedSimpArgs false
set_option linter.unusedVariables false
set_option linter.unusedSectionVars false
open Go.RowKit

abbrev Nt.cs (x : Nt) : Array Value := csN x.k x.n x.i x.rd x.cd x.SA x.st.length x.sc x.vw.r x.vw.n x.vw.i x.vw.MA x.vw.ms.length x.vw.mc x.vw.UA x.vw.us.length x.vw.uc
abbrev nt0 : Nt := ⟨0, 0, 0, 0, 0, none, 0, [], vw0⟩
/-- while it is read -/
structure DN (w : World) (g B m nb : Nat) (x : Nt) (s : RS) (W : World) : Prop where
  k0 : BoxAt W w.heap.size #[.int .i64 0, .int .i64 0, .int .u64 0, .int .u64 0, .int .u64 0, .slice none 0 0, .int .u64 0, .int .i64 0, .int .u64 0, .slice none 0 0, .slice none 0 0] 32
  km : BoxAt W m #[.pointer (some ⟨g, 0, none⟩)] 80
  kn : BoxAt W nb x.cs 32
  rd : Rds W g B s.1 s.2
  os : OwnP W (nb + 1) (.slice x.SA x.st.length x.sc) x.st
  om : OwnP W (nb + 1) (.slice x.vw.MA x.vw.ms.length x.vw.mc) x.vw.ms
  ou : W.ownsRow (nb + 1) 22 1 (.slice x.vw.UA x.vw.us.length x.vw.uc) x.vw.us.length (ucs x.vw.us)
  hB : Below w.heap.size w W
  h1 : w.heap.size < g
  h2 : g < B
  h3 : B ≤ m
  h4 : m < nb
  hl : s.1.length ≤ 1000000
section
variable {w W W' : World} {g B m nb : Nat} {x x' : Nt} {s s' : RS}
theorem DN.read (h : DN w g B m nb x s W) (hG : W.grownBy W' (some g)) (hR : Rds W' g B s'.1 s'.2) (hl : s'.1.length ≤ s.1.length) : DN w g B m nb x s' W' := by
  obtain ⟨k0, km, kn, rd, os, om, ou, hB, h1, h2, h3, h4, h5⟩ := h
  exact ⟨k0.grown hG (by omega), km.grown hG (by omega), kn.grown hG (by omega), hR, own_grown os hG (by omega), own_grown om hG (by omega), own_grown ou hG (by omega), hB.trans (grown_to_below hG (by omega) hB.size), h1, h2, h3, h4, by omega⟩
theorem DN.below (h : DN w g B m nb x s W) (hb : Below W.heap.size W W') : DN w g B m nb x s W' := by
  obtain ⟨k0, km, kn, rd, os, om, ou, hB, h1, h2, h3, h4, h5⟩ := h
  exact ⟨k0.step hb, km.step hb, kn.step hb, rd.step hb, own_below os hb (Nat.le_refl _), own_below om hb (Nat.le_refl _), own_below ou hb (Nat.le_refl _), below_step hB hb, h1, h2, h3, h4, h5⟩
theorem DN.set (h : DN w g B m nb x s W) (hG : W.grownBy W' (some nb)) (kn' : BoxAt W' nb x'.cs 32) (os' : OwnP W (nb + 1) (.slice x'.SA x'.st.length x'.sc) x'.st) (om' : OwnP W (nb + 1) (.slice x'.vw.MA x'.vw.ms.length x'.vw.mc) x'.vw.ms) (ou' : W.ownsRow (nb + 1) 22 1 (.slice x'.vw.UA x'.vw.us.length x'.vw.uc) x'.vw.us.length (ucs x'.vw.us)) : DN w g B m nb x' s W' := by
  obtain ⟨k0, km, kn, rd, os, om, ou, hB, h1, h2, h3, h4, h5⟩ := h
  have hk := kn.lt
  exact ⟨k0.grown hG (by omega), km.grown hG (by omega), kn', rd.below (grown_to_below hG (by omega) (by omega)), own_grown os' hG (by omega), own_grown om' hG (by omega), own_grown ou' hG (by omega), hB.trans (grown_to_below hG (by omega) hB.size), h1, h2, h3, h4, h5⟩
end
/-- all other boxes stay -/
def Kp (g nb : Nat) (W W' : World) : Prop := ∀ (k : Nat) (cs : Array Value) (t : TypeId), k ≠ g → k ≠ nb → BoxAt W k cs t → BoxAt W' k cs t
theorem setB1 {w : World} {n i : Nat} {v : Value} {cs : Array Value} {t : TypeId} (h : BoxAt w n cs t) : BoxAt (w.setCell ⟨n, i, none⟩ v) n (cs.setIfInBounds i v) t := ⟨setCell_block _ _ _ _ _ _ h.eq⟩
set_option maxHeartbeats 1000000 in
theorem dWho_s (w W : World) (g B m nb : Nat) (x : Nt) (s : RS) (h : DN w g B m nb x s W) :
    Calls Tryz.prog 58 #[.pointer (some ⟨m, 0, none⟩), .pointer (some ⟨nb, 0, none⟩)] W fun e W' => e = .returned (.tuple #[]) ∧ (DN w g B m nb ⟨x.k, (rGet s).1.1, (rGet s).1.2, x.rd, x.cd, x.SA, x.sc, x.st, x.vw⟩ (rGet s).2 W') ∧ Kp g nb W W' := by
  have T := hide (getP_s g B s W h.rd h.hl)
  have hlen := rGet_len s
  generalize rGet s = q at T hlen ⊢
  obtain ⟨⟨a, b⟩, s'⟩ := q
  simp only at T hlen ⊢
  obtain ⟨k, n, i, rd, cd, SA, sc, st, ⟨r, vn, vi, MA, mc, ms, UA, uc, us⟩⟩ := x
  haveI : BoxAt W nb #[.int .i64 k, .int .i64 n, .int .u64 i, .int .u64 rd, .int .u64 cd, .slice SA st.length sc, .int .u64 r, .int .i64 vn, .int .u64 vi, .slice MA ms.length mc, .slice UA us.length uc] 32 := h.kn
  haveI := h.km
  have hnl := h.kn.lt
  go_enter Tryz.func58, Tryz.ntmps58
  go_wp2_with fail
  with_reducible refine T.out.mono ?_
  rintro e w1 ⟨rfl, hR, hG⟩
  have D1 := h.read (s' := s') hG hR hlen
  haveI : BoxAt w1 nb #[.int .i64 k, .int .i64 n, .int .u64 i, .int .u64 rd, .int .u64 cd, .slice SA st.length sc, .int .u64 r, .int .i64 vn, .int .u64 vi, .slice MA ms.length mc, .slice UA us.length uc] 32 := D1.kn
  have D2 := hide (D1.set (W' := ((w1.setCell ⟨nb, 1, none⟩ (.int .i64 a)).setCell ⟨nb, 2, none⟩ (.int .u64 b))) (x' := ⟨k, a, b, rd, cd, SA, sc, st, ⟨r, vn, vi, MA, mc, ms, UA, uc, us⟩⟩) (grown_trans (grown_setCell w1 nb 1 (.int .i64 a)) (grown_setCell (w1.setCell ⟨nb, 1, none⟩ (.int .i64 a)) nb 2 (.int .u64 b))) (setB1 (i := 2) (v := .int .u64 b) (setB1 (i := 1) (v := .int .i64 a) (D1.kn))) D1.os D1.om D1.ou)
  have HK : Hid (Kp g nb W ((w1.setCell ⟨nb, 1, none⟩ (.int .i64 a)).setCell ⟨nb, 2, none⟩ (.int .u64 b))) := hide (fun k cs t a1 a2 a3 => (((a3.grown hG a1).set a2).set a2))
  clear h hR hG D1 T
  go_wp2
  go_end0
  exact ⟨rfl, D2.out, HK.out⟩
set_option maxHeartbeats 1000000 in
theorem dRound_s (w W : World) (g B m nb : Nat) (x : Nt) (s : RS) (h : DN w g B m nb x s W) :
    Calls Tryz.prog 59 #[.pointer (some ⟨m, 0, none⟩), .pointer (some ⟨nb, 0, none⟩)] W fun e W' => e = .returned (.tuple #[]) ∧ (DN w g B m nb ⟨x.k, x.n, x.i, (rUint s).1, x.cd, x.SA, x.sc, x.st, x.vw⟩ (rUint s).2 W') ∧ Kp g nb W W' := by
  have T := hide (uintR_s g B s W h.rd h.hl)
  have hlen := rUint_len s
  generalize rUint s = q at T hlen ⊢
  obtain ⟨a, s'⟩ := q
  simp only at T hlen ⊢
  obtain ⟨k, n, i, rd, cd, SA, sc, st, ⟨r, vn, vi, MA, mc, ms, UA, uc, us⟩⟩ := x
  haveI : BoxAt W nb #[.int .i64 k, .int .i64 n, .int .u64 i, .int .u64 rd, .int .u64 cd, .slice SA st.length sc, .int .u64 r, .int .i64 vn, .int .u64 vi, .slice MA ms.length mc, .slice UA us.length uc] 32 := h.kn
  haveI := h.km
  have hnl := h.kn.lt
  go_enter Tryz.func59, Tryz.ntmps59
  go_wp2_with fail
  with_reducible refine T.out.mono ?_
  rintro e w1 ⟨rfl, hR, hG⟩
  have D1 := h.read (s' := s') hG hR hlen
  haveI : BoxAt w1 nb #[.int .i64 k, .int .i64 n, .int .u64 i, .int .u64 rd, .int .u64 cd, .slice SA st.length sc, .int .u64 r, .int .i64 vn, .int .u64 vi, .slice MA ms.length mc, .slice UA us.length uc] 32 := D1.kn
  have D2 := hide (D1.set (W' := (w1.setCell ⟨nb, 3, none⟩ (.int .u64 a))) (x' := ⟨k, n, i, a, cd, SA, sc, st, ⟨r, vn, vi, MA, mc, ms, UA, uc, us⟩⟩) (grown_setCell w1 nb 3 (.int .u64 a)) (setB1 (i := 3) (v := .int .u64 a) (D1.kn)) D1.os D1.om D1.ou)
  have HK : Hid (Kp g nb W (w1.setCell ⟨nb, 3, none⟩ (.int .u64 a))) := hide (fun k cs t a1 a2 a3 => ((a3.grown hG a1).set a2))
  clear h hR hG D1 T
  go_wp2
  go_end0
  exact ⟨rfl, D2.out, HK.out⟩
set_option maxHeartbeats 1000000 in
theorem dCid_s (w W : World) (g B m nb : Nat) (x : Nt) (s : RS) (h : DN w g B m nb x s W) :
    Calls Tryz.prog 60 #[.pointer (some ⟨m, 0, none⟩), .pointer (some ⟨nb, 0, none⟩)] W fun e W' => e = .returned (.tuple #[]) ∧ (DN w g B m nb ⟨x.k, x.n, x.i, x.rd, (rUint s).1, x.SA, x.sc, x.st, x.vw⟩ (rUint s).2 W') ∧ Kp g nb W W' := by
  have T := hide (uintR_s g B s W h.rd h.hl)
  have hlen := rUint_len s
  generalize rUint s = q at T hlen ⊢
  obtain ⟨a, s'⟩ := q
  simp only at T hlen ⊢
  obtain ⟨k, n, i, rd, cd, SA, sc, st, ⟨r, vn, vi, MA, mc, ms, UA, uc, us⟩⟩ := x
  haveI : BoxAt W nb #[.int .i64 k, .int .i64 n, .int .u64 i, .int .u64 rd, .int .u64 cd, .slice SA st.length sc, .int .u64 r, .int .i64 vn, .int .u64 vi, .slice MA ms.length mc, .slice UA us.length uc] 32 := h.kn
  haveI := h.km
  have hnl := h.kn.lt
  go_enter Tryz.func60, Tryz.ntmps60
  go_wp2_with fail
  with_reducible refine T.out.mono ?_
  rintro e w1 ⟨rfl, hR, hG⟩
  have D1 := h.read (s' := s') hG hR hlen
  haveI : BoxAt w1 nb #[.int .i64 k, .int .i64 n, .int .u64 i, .int .u64 rd, .int .u64 cd, .slice SA st.length sc, .int .u64 r, .int .i64 vn, .int .u64 vi, .slice MA ms.length mc, .slice UA us.length uc] 32 := D1.kn
  have D2 := hide (D1.set (W' := (w1.setCell ⟨nb, 4, none⟩ (.int .u64 a))) (x' := ⟨k, n, i, rd, a, SA, sc, st, ⟨r, vn, vi, MA, mc, ms, UA, uc, us⟩⟩) (grown_setCell w1 nb 4 (.int .u64 a)) (setB1 (i := 4) (v := .int .u64 a) (D1.kn)) D1.os D1.om D1.ou)
  have HK : Hid (Kp g nb W (w1.setCell ⟨nb, 4, none⟩ (.int .u64 a))) := hide (fun k cs t a1 a2 a3 => ((a3.grown hG a1).set a2))
  clear h hR hG D1 T
  go_wp2
  go_end0
  exact ⟨rfl, D2.out, HK.out⟩
set_option maxHeartbeats 1000000 in
theorem dSet_s (w W : World) (g B m nb : Nat) (x : Nt) (s : RS) (h : DN w g B m nb x s W) :
    Calls Tryz.prog 61 #[.pointer (some ⟨m, 0, none⟩), .pointer (some ⟨nb, 0, none⟩)] W fun e W' => e = .returned (.tuple #[]) ∧ (∃ A c, DN w g B m nb ⟨x.k, x.n, x.i, x.rd, x.cd, A, c, (rGetSet 6 s).1, x.vw⟩ (rGetSet 6 s).2 W') ∧ Kp g nb W W' := by
  have T := hide (show Calls Tryz.prog 52 #[.pointer (some ⟨g, 0, none⟩), .int .i64 6] W (RetRP g B W (rGetSet 6 s).1 (rGetSet 6 s).2) from getSet_s g B 6 s W h.rd h.hl (by omega))
  have hlen := rGetSet_len 6 s
  generalize rGetSet 6 s = q at T hlen ⊢
  obtain ⟨l, s'⟩ := q
  simp only at T hlen ⊢
  obtain ⟨k, n, i, rd, cd, SA, sc, st, ⟨r, vn, vi, MA, mc, ms, UA, uc, us⟩⟩ := x
  haveI : BoxAt W nb #[.int .i64 k, .int .i64 n, .int .u64 i, .int .u64 rd, .int .u64 cd, .slice SA st.length sc, .int .u64 r, .int .i64 vn, .int .u64 vi, .slice MA ms.length mc, .slice UA us.length uc] 32 := h.kn
  haveI := h.km
  have hnl := h.kn.lt
  go_enter Tryz.func61, Tryz.ntmps61
  go_wp2_with fail
  with_reducible refine T.out.mono ?_
  rintro e w1 ⟨v1, rfl, ho, hR, hG⟩
  have D1 := h.read (s' := s') hG hR hlen
  haveI : BoxAt w1 nb #[.int .i64 k, .int .i64 n, .int .u64 i, .int .u64 rd, .int .u64 cd, .slice SA st.length sc, .int .u64 r, .int .i64 vn, .int .u64 vi, .slice MA ms.length mc, .slice UA us.length uc] 32 := D1.kn
  obtain ⟨A1, c1, rfl, _, _⟩ := own_slice ho
  have D2 := hide (D1.set (W' := (w1.setCell ⟨nb, 5, none⟩ (.slice A1 l.length c1))) (x' := ⟨k, n, i, rd, cd, A1, c1, l, ⟨r, vn, vi, MA, mc, ms, UA, uc, us⟩⟩) (grown_setCell w1 nb 5 (.slice A1 l.length c1)) (setB1 (i := 5) (v := .slice A1 l.length c1) (D1.kn)) (own_base ho (by omega)) D1.om D1.ou)
  have HK : Hid (Kp g nb W (w1.setCell ⟨nb, 5, none⟩ (.slice A1 l.length c1))) := hide (fun k cs t a1 a2 a3 => ((a3.grown hG a1).set a2))
  clear h hR hG D1 T
  go_wp2
  go_end0
  exact ⟨rfl, ⟨_, _, D2.out⟩, HK.out⟩
theorem rView_len (s : RS) : (rView s).2.1.length ≤ s.1.length := by
  have h1 := rId_len s
  have h2 := rGetSet_len 6 (rId s).2
  have h3 := rUints_len (rGetSet 6 (rId s).2).1.length (rGetSet 6 (rId s).2).2 []
  rw [rView_eq]
  split <;> (simp only; omega)
set_option maxHeartbeats 1000000 in
theorem dWhole_s (w W : World) (g B m nb : Nat) (x : Nt) (s : RS) (h : DN w g B m nb x s W) :
    Calls Tryz.prog 62 #[.pointer (some ⟨m, 0, none⟩), .pointer (some ⟨nb, 0, none⟩)] W fun e W' => e = .returned (.tuple #[]) ∧ (∃ A c A' c', DN w g B m nb ⟨x.k, x.n, x.i, x.rd, x.cd, x.SA, x.sc, x.st, ⟨(rView s).1.1.1, (rView s).1.1.2.1, (rView s).1.1.2.2, A, c, (rView s).1.2.1, A', c', (rView s).1.2.2⟩⟩ (rView s).2 W') ∧ Kp g nb W W' := by
  have T := hide (getV_s g B s W h.rd h.hl)
  have hlen := rView_len s
  generalize rView s = q at T hlen ⊢
  obtain ⟨⟨⟨a, b, c⟩, ms', us'⟩, s'⟩ := q
  simp only at T hlen ⊢
  obtain ⟨k, n, i, rd, cd, SA, sc, st, ⟨r, vn, vi, MA, mc, ms, UA, uc, us⟩⟩ := x
  haveI : BoxAt W nb #[.int .i64 k, .int .i64 n, .int .u64 i, .int .u64 rd, .int .u64 cd, .slice SA st.length sc, .int .u64 r, .int .i64 vn, .int .u64 vi, .slice MA ms.length mc, .slice UA us.length uc] 32 := h.kn
  haveI := h.km
  have hnl := h.kn.lt
  go_enter Tryz.func62, Tryz.ntmps62
  go_wp2_with fail
  with_reducible refine T.out.mono ?_
  rintro e w1 ⟨A1, c1, A2, c2, rfl, ho, hu, hR, hG⟩
  have D1 := h.read (s' := s') hG hR hlen
  haveI : BoxAt w1 nb #[.int .i64 k, .int .i64 n, .int .u64 i, .int .u64 rd, .int .u64 cd, .slice SA st.length sc, .int .u64 r, .int .i64 vn, .int .u64 vi, .slice MA ms.length mc, .slice UA us.length uc] 32 := D1.kn
  have D2 := hide (D1.set (W' := (((((w1.setCell ⟨nb, 6, none⟩ (.int .u64 a)).setCell ⟨nb, 7, none⟩ (.int .i64 b)).setCell ⟨nb, 8, none⟩ (.int .u64 c)).setCell ⟨nb, 9, none⟩ (.slice A1 ms'.length c1)).setCell ⟨nb, 10, none⟩ (.slice A2 us'.length c2))) (x' := ⟨k, n, i, rd, cd, SA, sc, st, ⟨a, b, c, A1, c1, ms', A2, c2, us'⟩⟩) (grown_trans (grown_trans (grown_trans (grown_trans (grown_setCell w1 nb 6 (.int .u64 a)) (grown_setCell (w1.setCell ⟨nb, 6, none⟩ (.int .u64 a)) nb 7 (.int .i64 b))) (grown_setCell ((w1.setCell ⟨nb, 6, none⟩ (.int .u64 a)).setCell ⟨nb, 7, none⟩ (.int .i64 b)) nb 8 (.int .u64 c))) (grown_setCell (((w1.setCell ⟨nb, 6, none⟩ (.int .u64 a)).setCell ⟨nb, 7, none⟩ (.int .i64 b)).setCell ⟨nb, 8, none⟩ (.int .u64 c)) nb 9 (.slice A1 ms'.length c1))) (grown_setCell ((((w1.setCell ⟨nb, 6, none⟩ (.int .u64 a)).setCell ⟨nb, 7, none⟩ (.int .i64 b)).setCell ⟨nb, 8, none⟩ (.int .u64 c)).setCell ⟨nb, 9, none⟩ (.slice A1 ms'.length c1)) nb 10 (.slice A2 us'.length c2))) (setB1 (i := 10) (v := .slice A2 us'.length c2) (setB1 (i := 9) (v := .slice A1 ms'.length c1) (setB1 (i := 8) (v := .int .u64 c) (setB1 (i := 7) (v := .int .i64 b) (setB1 (i := 6) (v := .int .u64 a) (D1.kn)))))) D1.os (own_base ho (by omega)) (own_base hu (by omega)))
  have HK : Hid (Kp g nb W (((((w1.setCell ⟨nb, 6, none⟩ (.int .u64 a)).setCell ⟨nb, 7, none⟩ (.int .i64 b)).setCell ⟨nb, 8, none⟩ (.int .u64 c)).setCell ⟨nb, 9, none⟩ (.slice A1 ms'.length c1)).setCell ⟨nb, 10, none⟩ (.slice A2 us'.length c2))) := hide (fun k cs t a1 a2 a3 => ((((((a3.grown hG a1).set a2).set a2).set a2).set a2).set a2))
  clear h hR hG D1 T
  go_wp2
  go_end0
  exact ⟨rfl, ⟨_, _, _, _, D2.out⟩, HK.out⟩
end Go.Proofs.YtdmjopokclljlaaGreat

namespace Go.Proofs.YtdmjopokclljlaaGreat
set_option linter.unusedSimpArgs false
set_option linter.unusedVariables false
set_option linter.unusedSectionVars false
open Go.RowKit

set_option maxHeartbeats 1000000 in
theorem dRead13 (w W : World) (g B m nb pb : Nat) (x : Nt) (s : RS) (h : DN w g B m nb x s W) (hp : BoxAt W pb #[.func (.func 58) #[] #[.pointer (some ⟨m, 0, none⟩), .pointer (some ⟨nb, 0, none⟩)], .func (.func 59) #[] #[.pointer (some ⟨m, 0, none⟩), .pointer (some ⟨nb, 0, none⟩)], .func (.func 60) #[] #[.pointer (some ⟨m, 0, none⟩), .pointer (some ⟨nb, 0, none⟩)], .func (.func 61) #[] #[.pointer (some ⟨m, 0, none⟩), .pointer (some ⟨nb, 0, none⟩)]] 1) (hg : pb ≠ g) (hn : pb ≠ nb) :
    Calls Tryz.prog 64 #[.slice (some ⟨pb, 0, none⟩) 4 4] W fun e W' => e = .returned (.tuple #[]) ∧ ∃ A c, DN w g B m nb ⟨x.k, (rGet s).1.1, (rGet s).1.2, (rUint (rGet s).2).1, (rUint (rUint (rGet s).2).2).1, A, c, (rGetSet 6 (rUint (rUint (rGet s).2).2).2).1, x.vw⟩ (rGetSet 6 (rUint (rUint (rGet s).2).2).2).2 W' := by
  haveI := hp
  go_enter Tryz.func64, Tryz.ntmps64
  go_wp2
  refine wp_loop_rounds 5 ?_
  rw [rounds_succ]
  go_wp2_with (go_at_call 58; (with_reducible refine (dWho_s w W g B m nb _ _ h).mono ?_); rintro e w1 ⟨rfl, D1, k1⟩; have b1 := k1 _ _ _ hg hn hp; haveI := b1; clear k1)
  rw [rounds_succ]
  go_wp2_with (go_at_call 59; (with_reducible refine (dRound_s w w1 g B m nb _ _ D1).mono ?_); rintro e w2 ⟨rfl, D2, k2⟩; have b2 := k2 _ _ _ hg hn b1; haveI := b2; clear k2)
  rw [rounds_succ]
  go_wp2_with (go_at_call 60; (with_reducible refine (dCid_s w w2 g B m nb _ _ D2).mono ?_); rintro e w3 ⟨rfl, D3, k3⟩; have b3 := k3 _ _ _ hg hn b2; haveI := b3; clear k3)
  rw [rounds_succ]
  go_wp2_with (go_at_call 61; (with_reducible refine (dSet_s w w3 g B m nb _ _ D3).mono ?_); rintro e w4 ⟨rfl, ⟨A4, c4, D4⟩, k4⟩; have b4 := k4 _ _ _ hg hn b3; haveI := b4; clear k4)
  rw [rounds_succ]
  go_wp2
  go_end0
  exact ⟨rfl, A4, c4, D4⟩
set_option maxHeartbeats 1000000 in
theorem dRead2 (w W : World) (g B m nb pb : Nat) (x : Nt) (s : RS) (h : DN w g B m nb x s W) (hp : BoxAt W pb #[.func (.func 58) #[] #[.pointer (some ⟨m, 0, none⟩), .pointer (some ⟨nb, 0, none⟩)]] 1) (hg : pb ≠ g) (hn : pb ≠ nb) :
    Calls Tryz.prog 64 #[.slice (some ⟨pb, 0, none⟩) 1 1] W fun e W' => e = .returned (.tuple #[]) ∧ DN w g B m nb ⟨x.k, (rGet s).1.1, (rGet s).1.2, x.rd, x.cd, x.SA, x.sc, x.st, x.vw⟩ (rGet s).2 W' := by
  haveI := hp
  go_enter Tryz.func64, Tryz.ntmps64
  go_wp2
  refine wp_loop_rounds 2 ?_
  rw [rounds_succ]
  go_wp2_with (go_at_call 58; (with_reducible refine (dWho_s w W g B m nb _ _ h).mono ?_); rintro e w1 ⟨rfl, D1, k1⟩; have b1 := k1 _ _ _ hg hn hp; haveI := b1; clear k1)
  rw [rounds_succ]
  go_wp2
  go_end0
  exact ⟨rfl, D1⟩
set_option maxHeartbeats 1000000 in
theorem dRead4 (w W : World) (g B m nb pb : Nat) (x : Nt) (s : RS) (h : DN w g B m nb x s W) (hp : BoxAt W pb #[.func (.func 58) #[] #[.pointer (some ⟨m, 0, none⟩), .pointer (some ⟨nb, 0, none⟩)], .func (.func 60) #[] #[.pointer (some ⟨m, 0, none⟩), .pointer (some ⟨nb, 0, none⟩)], .func (.func 61) #[] #[.pointer (some ⟨m, 0, none⟩), .pointer (some ⟨nb, 0, none⟩)]] 1) (hg : pb ≠ g) (hn : pb ≠ nb) :
    Calls Tryz.prog 64 #[.slice (some ⟨pb, 0, none⟩) 3 3] W fun e W' => e = .returned (.tuple #[]) ∧ ∃ A c, DN w g B m nb ⟨x.k, (rGet s).1.1, (rGet s).1.2, x.rd, (rUint (rGet s).2).1, A, c, (rGetSet 6 (rUint (rGet s).2).2).1, x.vw⟩ (rGetSet 6 (rUint (rGet s).2).2).2 W' := by
  haveI := hp
  go_enter Tryz.func64, Tryz.ntmps64
  go_wp2
  refine wp_loop_rounds 4 ?_
  rw [rounds_succ]
  go_wp2_with (go_at_call 58; (with_reducible refine (dWho_s w W g B m nb _ _ h).mono ?_); rintro e w1 ⟨rfl, D1, k1⟩; have b1 := k1 _ _ _ hg hn hp; haveI := b1; clear k1)
  rw [rounds_succ]
  go_wp2_with (go_at_call 60; (with_reducible refine (dCid_s w w1 g B m nb _ _ D1).mono ?_); rintro e w2 ⟨rfl, D2, k2⟩; have b2 := k2 _ _ _ hg hn b1; haveI := b2; clear k2)
  rw [rounds_succ]
  go_wp2_with (go_at_call 61; (with_reducible refine (dSet_s w w2 g B m nb _ _ D2).mono ?_); rintro e w3 ⟨rfl, ⟨A4, c4, D4⟩, k3⟩; have b3 := k3 _ _ _ hg hn b2; haveI := b3; clear k3)
  rw [rounds_succ]
  go_wp2
  go_end0
  exact ⟨rfl, A4, c4, D4⟩
set_option maxHeartbeats 1000000 in
theorem dRead5 (w W : World) (g B m nb pb : Nat) (x : Nt) (s : RS) (h : DN w g B m nb x s W) (hp : BoxAt W pb #[.func (.func 62) #[] #[.pointer (some ⟨m, 0, none⟩), .pointer (some ⟨nb, 0, none⟩)]] 1) (hg : pb ≠ g) (hn : pb ≠ nb) :
    Calls Tryz.prog 64 #[.slice (some ⟨pb, 0, none⟩) 1 1] W fun e W' => e = .returned (.tuple #[]) ∧ ∃ A c A' c', DN w g B m nb ⟨x.k, x.n, x.i, x.rd, x.cd, x.SA, x.sc, x.st, ⟨(rView s).1.1.1, (rView s).1.1.2.1, (rView s).1.1.2.2, A, c, (rView s).1.2.1, A', c', (rView s).1.2.2⟩⟩ (rView s).2 W' := by
  haveI := hp
  go_enter Tryz.func64, Tryz.ntmps64
  go_wp2
  refine wp_loop_rounds 2 ?_
  rw [rounds_succ]
  go_wp2_with (go_at_call 62; (with_reducible refine (dWhole_s w W g B m nb _ _ h).mono ?_); rintro e w1 ⟨rfl, ⟨A1, c1, A2, c2, D1⟩, k1⟩; have b1 := k1 _ _ _ hg hn hp; haveI := b1; clear k1)
  rw [rounds_succ]
  go_wp2
  go_end0
  exact ⟨rfl, A1, c1, A2, c2, D1⟩
set_option maxHeartbeats 1000000 in
theorem set11 {w : World} {n : Nat} {c0 c1 c2 c3 c4 c5 c6 c7 c8 c9 c10 : Value} {t : TypeId} (k : BoxAt w n #[c0, c1, c2, c3, c4, c5, c6, c7, c8, c9, c10] t) (d0 d1 d2 d3 d4 d5 d6 d7 d8 d9 d10 : Value) :
    BoxAt (((((((((((w.setCell ⟨n, 0, none⟩ d0).setCell ⟨n, 1, none⟩ d1).setCell ⟨n, 2, none⟩ d2).setCell ⟨n, 3, none⟩ d3).setCell ⟨n, 4, none⟩ d4).setCell ⟨n, 5, none⟩ d5).setCell ⟨n, 6, none⟩ d6).setCell ⟨n, 7, none⟩ d7).setCell ⟨n, 8, none⟩ d8).setCell ⟨n, 9, none⟩ d9).setCell ⟨n, 10, none⟩ d10) n #[d0, d1, d2, d3, d4, d5, d6, d7, d8, d9, d10] t ∧ w.grownBy (((((((((((w.setCell ⟨n, 0, none⟩ d0).setCell ⟨n, 1, none⟩ d1).setCell ⟨n, 2, none⟩ d2).setCell ⟨n, 3, none⟩ d3).setCell ⟨n, 4, none⟩ d4).setCell ⟨n, 5, none⟩ d5).setCell ⟨n, 6, none⟩ d6).setCell ⟨n, 7, none⟩ d7).setCell ⟨n, 8, none⟩ d8).setCell ⟨n, 9, none⟩ d9).setCell ⟨n, 10, none⟩ d10) (some n) := by
  have h0 : BoxAt (w.setCell ⟨n, 0, none⟩ d0) n #[d0, c1, c2, c3, c4, c5, c6, c7, c8, c9, c10] t := setB1 (i := 0) (v := d0) k
  have h1 : BoxAt ((w.setCell ⟨n, 0, none⟩ d0).setCell ⟨n, 1, none⟩ d1) n #[d0, d1, c2, c3, c4, c5, c6, c7, c8, c9, c10] t := setB1 (i := 1) (v := d1) h0
  have h2 : BoxAt (((w.setCell ⟨n, 0, none⟩ d0).setCell ⟨n, 1, none⟩ d1).setCell ⟨n, 2, none⟩ d2) n #[d0, d1, d2, c3, c4, c5, c6, c7, c8, c9, c10] t := setB1 (i := 2) (v := d2) h1
  have h3 : BoxAt ((((w.setCell ⟨n, 0, none⟩ d0).setCell ⟨n, 1, none⟩ d1).setCell ⟨n, 2, none⟩ d2).setCell ⟨n, 3, none⟩ d3) n #[d0, d1, d2, d3, c4, c5, c6, c7, c8, c9, c10] t := setB1 (i := 3) (v := d3) h2
  have h4 : BoxAt (((((w.setCell ⟨n, 0, none⟩ d0).setCell ⟨n, 1, none⟩ d1).setCell ⟨n, 2, none⟩ d2).setCell ⟨n, 3, none⟩ d3).setCell ⟨n, 4, none⟩ d4) n #[d0, d1, d2, d3, d4, c5, c6, c7, c8, c9, c10] t := setB1 (i := 4) (v := d4) h3
  have h5 : BoxAt ((((((w.setCell ⟨n, 0, none⟩ d0).setCell ⟨n, 1, none⟩ d1).setCell ⟨n, 2, none⟩ d2).setCell ⟨n, 3, none⟩ d3).setCell ⟨n, 4, none⟩ d4).setCell ⟨n, 5, none⟩ d5) n #[d0, d1, d2, d3, d4, d5, c6, c7, c8, c9, c10] t := setB1 (i := 5) (v := d5) h4
  have h6 : BoxAt (((((((w.setCell ⟨n, 0, none⟩ d0).setCell ⟨n, 1, none⟩ d1).setCell ⟨n, 2, none⟩ d2).setCell ⟨n, 3, none⟩ d3).setCell ⟨n, 4, none⟩ d4).setCell ⟨n, 5, none⟩ d5).setCell ⟨n, 6, none⟩ d6) n #[d0, d1, d2, d3, d4, d5, d6, c7, c8, c9, c10] t := setB1 (i := 6) (v := d6) h5
  have h7 : BoxAt ((((((((w.setCell ⟨n, 0, none⟩ d0).setCell ⟨n, 1, none⟩ d1).setCell ⟨n, 2, none⟩ d2).setCell ⟨n, 3, none⟩ d3).setCell ⟨n, 4, none⟩ d4).setCell ⟨n, 5, none⟩ d5).setCell ⟨n, 6, none⟩ d6).setCell ⟨n, 7, none⟩ d7) n #[d0, d1, d2, d3, d4, d5, d6, d7, c8, c9, c10] t := setB1 (i := 7) (v := d7) h6
  have h8 : BoxAt (((((((((w.setCell ⟨n, 0, none⟩ d0).setCell ⟨n, 1, none⟩ d1).setCell ⟨n, 2, none⟩ d2).setCell ⟨n, 3, none⟩ d3).setCell ⟨n, 4, none⟩ d4).setCell ⟨n, 5, none⟩ d5).setCell ⟨n, 6, none⟩ d6).setCell ⟨n, 7, none⟩ d7).setCell ⟨n, 8, none⟩ d8) n #[d0, d1, d2, d3, d4, d5, d6, d7, d8, c9, c10] t := setB1 (i := 8) (v := d8) h7
  have h9 : BoxAt ((((((((((w.setCell ⟨n, 0, none⟩ d0).setCell ⟨n, 1, none⟩ d1).setCell ⟨n, 2, none⟩ d2).setCell ⟨n, 3, none⟩ d3).setCell ⟨n, 4, none⟩ d4).setCell ⟨n, 5, none⟩ d5).setCell ⟨n, 6, none⟩ d6).setCell ⟨n, 7, none⟩ d7).setCell ⟨n, 8, none⟩ d8).setCell ⟨n, 9, none⟩ d9) n #[d0, d1, d2, d3, d4, d5, d6, d7, d8, d9, c10] t := setB1 (i := 9) (v := d9) h8
  have h10 : BoxAt (((((((((((w.setCell ⟨n, 0, none⟩ d0).setCell ⟨n, 1, none⟩ d1).setCell ⟨n, 2, none⟩ d2).setCell ⟨n, 3, none⟩ d3).setCell ⟨n, 4, none⟩ d4).setCell ⟨n, 5, none⟩ d5).setCell ⟨n, 6, none⟩ d6).setCell ⟨n, 7, none⟩ d7).setCell ⟨n, 8, none⟩ d8).setCell ⟨n, 9, none⟩ d9).setCell ⟨n, 10, none⟩ d10) n #[d0, d1, d2, d3, d4, d5, d6, d7, d8, d9, d10] t := setB1 (i := 10) (v := d10) h9
  exact ⟨h10, (grown_trans (grown_trans (grown_trans (grown_trans (grown_trans (grown_trans (grown_trans (grown_trans (grown_trans (grown_trans (grown_setCell w n 0 d0) (grown_setCell (w.setCell ⟨n, 0, none⟩ d0) n 1 d1)) (grown_setCell ((w.setCell ⟨n, 0, none⟩ d0).setCell ⟨n, 1, none⟩ d1) n 2 d2)) (grown_setCell (((w.setCell ⟨n, 0, none⟩ d0).setCell ⟨n, 1, none⟩ d1).setCell ⟨n, 2, none⟩ d2) n 3 d3)) (grown_setCell ((((w.setCell ⟨n, 0, none⟩ d0).setCell ⟨n, 1, none⟩ d1).setCell ⟨n, 2, none⟩ d2).setCell ⟨n, 3, none⟩ d3) n 4 d4)) (grown_setCell (((((w.setCell ⟨n, 0, none⟩ d0).setCell ⟨n, 1, none⟩ d1).setCell ⟨n, 2, none⟩ d2).setCell ⟨n, 3, none⟩ d3).setCell ⟨n, 4, none⟩ d4) n 5 d5)) (grown_setCell ((((((w.setCell ⟨n, 0, none⟩ d0).setCell ⟨n, 1, none⟩ d1).setCell ⟨n, 2, none⟩ d2).setCell ⟨n, 3, none⟩ d3).setCell ⟨n, 4, none⟩ d4).setCell ⟨n, 5, none⟩ d5) n 6 d6)) (grown_setCell (((((((w.setCell ⟨n, 0, none⟩ d0).setCell ⟨n, 1, none⟩ d1).setCell ⟨n, 2, none⟩ d2).setCell ⟨n, 3, none⟩ d3).setCell ⟨n, 4, none⟩ d4).setCell ⟨n, 5, none⟩ d5).setCell ⟨n, 6, none⟩ d6) n 7 d7)) (grown_setCell ((((((((w.setCell ⟨n, 0, none⟩ d0).setCell ⟨n, 1, none⟩ d1).setCell ⟨n, 2, none⟩ d2).setCell ⟨n, 3, none⟩ d3).setCell ⟨n, 4, none⟩ d4).setCell ⟨n, 5, none⟩ d5).setCell ⟨n, 6, none⟩ d6).setCell ⟨n, 7, none⟩ d7) n 8 d8)) (grown_setCell (((((((((w.setCell ⟨n, 0, none⟩ d0).setCell ⟨n, 1, none⟩ d1).setCell ⟨n, 2, none⟩ d2).setCell ⟨n, 3, none⟩ d3).setCell ⟨n, 4, none⟩ d4).setCell ⟨n, 5, none⟩ d5).setCell ⟨n, 6, none⟩ d6).setCell ⟨n, 7, none⟩ d7).setCell ⟨n, 8, none⟩ d8) n 9 d9)) (grown_setCell ((((((((((w.setCell ⟨n, 0, none⟩ d0).setCell ⟨n, 1, none⟩ d1).setCell ⟨n, 2, none⟩ d2).setCell ⟨n, 3, none⟩ d3).setCell ⟨n, 4, none⟩ d4).setCell ⟨n, 5, none⟩ d5).setCell ⟨n, 6, none⟩ d6).setCell ⟨n, 7, none⟩ d7).setCell ⟨n, 8, none⟩ d8).setCell ⟨n, 9, none⟩ d9) n 10 d10))⟩
/-- a notice elsewhere -/
def Nt.at (x : Nt) (SA : Option Addr) (sc : Nat) (MA : Option Addr) (mc : Nat) (UA : Option Addr) (uc : Nat) : Nt := ⟨x.k, x.n, x.i, x.rd, x.cd, SA, sc, x.st, ⟨x.vw.r, x.vw.n, x.vw.i, MA, mc, x.vw.ms, UA, uc, x.vw.us⟩⟩
/-- a notice, in new memory, and an error's number -/
def RetN (w : World) (x : Nt) (err : Int) (e : Ending) (w' : World) : Prop := ∃ SA sc MA mc UA uc, e = .returned (.tuple #[(x.at SA sc MA mc UA uc).v, .int .i64 err]) ∧ Nt.Ok w' (x.at SA sc MA mc UA uc) ∧ Below w.heap.size w w'
/-- the end of the reading -/
def finN (x : Nt) (s : RS) : Option Nt := if s.2 = true ∨ 0 < s.1.length then none else if x.mayB = false then none else some x
def RetDec (w : World) : Option Nt → Ending → World → Prop
  | none => RetN w nt0 3
  | some x => RetN w x 0
theorem RetDec.no {w w' : World} (hb : Below w.heap.size w w') : RetDec w none (.returned (.tuple #[.agg #[.int .i64 0, .int .i64 0, .int .u64 0, .int .u64 0, .int .u64 0, .slice none 0 0, .int .u64 0, .int .i64 0, .int .u64 0, .slice none 0 0, .slice none 0 0], .int .i64 3])) w' :=
  ⟨none, 0, none, 0, none, 0, rfl, ⟨Reads.none_, by simp [Nt.at], vw0_ok w'⟩, hb⟩
set_option maxRecDepth 100000 in
set_option maxHeartbeats 4000000 in
theorem dec1 (A : Option Addr) (c : Nat) (bs : List Int) (w : World) (hr : Reads w w.heap.size 1 A bs.length (bcs bs)) (hn : bs.length ≤ 1000000) (hok : bOK bs) (s s1 s2 s3 s4 : RS) (pn pi rd cd : Int) (l : List Pr) (e1 : rGet s = ((pn, pi), s1)) (e2 : rUint s1 = (rd, s2)) (e3 : rUint s2 = (cd, s3)) (e4 : rGetSet 6 s3 = (l, s4)) (hll : l.length ≤ 1000000) (hu : rU8 (bs, false) = (1, s)) :
    Calls Tryz.prog 21 #[.slice A bs.length c] w (RetDec w (finN ⟨1, pn, pi, rd, cd, none, 0, l, vw0⟩ s4)) := by
  have T1 := hide (newReader_s A c bs _ ((Reads.below hr (below_alloc w (bxN 0 0 0 0 0 none 0 0 0 0 0 none 0 0 none 0 0))).more (by simp)) hn hok)
  have hl1 := rU8_len (bs, false)
  have hrg := rU8_range (s := (bs, false)) hok
  have T2 : Hid (∀ g B W, Rds W g B bs false → Calls Tryz.prog 49 #[.pointer (some ⟨g, 0, none⟩)] W (RetR g B W (.int .u8 1) s)) := hide (fun g B W h => by
    have := u8R_s g B (bs, false) W h
    rw [hu] at this; exact this)
  rw [hu] at hl1 hrg
  simp only at hl1 hrg
  clear hr hu
  go_enter Tryz.func21, Tryz.ntmps21
  go_wp2_with fail
  with_reducible refine T1.out.mono ?_
  rintro e w1 ⟨g, rfl, hg, hR1, hb1⟩
  have p0 := (boxTop w #[.int .i64 0, .int .i64 0, .int .u64 0, .int .u64 0, .int .u64 0, .slice none 0 0, .int .u64 0, .int .i64 0, .int .u64 0, .slice none 0 0, .slice none 0 0] 32).step hb1
  have hB1 := below_step (below_alloc w (bxN 0 0 0 0 0 none 0 0 0 0 0 none 0 0 none 0 0)) hb1
  simp only [World.size_alloc] at hg
  have hgt := hR1.top
  have hbA := below_alloc w1 (.cells #[.pointer (some ⟨g, 0, none⟩)] 80)
  have pm := boxTop w1 #[.pointer (some ⟨g, 0, none⟩)] 80
  haveI := pm
  have T3 := hide (T2.out g _ _ (hR1.step hbA))
  clear T1 T2 hb1
  go_wp2_with fail
  with_reducible refine T3.out.mono ?_
  rintro e w2 ⟨rfl, hR2, hG2⟩
  have hm2 := (pm.grown hG2 (by omega))
  have hlt2 := hm2.lt
  have D0 : DN w g w1.heap.size w1.heap.size w2.heap.size ⟨1, 0, 0, 0, 0, none, 0, [], vw0⟩ s (w2.alloc (bxN 1 0 0 0 0 none 0 0 0 0 0 none 0 0 none 0 0)) :=
    ⟨((p0.alloc' _).grown hG2 (by omega)).alloc' _, hm2.alloc' _, boxTop w2 _ _, hR2.step (below_alloc _ _), World.ownsRow_nil _ _ _ _, World.ownsRow_nil _ _ _ _, World.ownsRow_nil _ _ _ _,
      below_step ((below_step hB1 hbA).trans (grown_to_below hG2 (by omega) (by have := hB1.size; simp; omega))) (below_alloc _ _), by omega, hgt, Nat.le_refl _, hlt2, Nat.le_trans hl1 hn⟩
  have hB2 := hB1.size
  clear hR1 hR2 hG2 pm hm2 hbA hB1 p0 T3
  haveI := D0.km
  haveI : BoxAt (w2.alloc (bxN 1 0 0 0 0 none 0 0 0 0 0 none 0 0 none 0 0)) w2.heap.size #[.int .i64 1, .int .i64 0, .int .u64 0, .int .u64 0, .int .u64 0, .slice none 0 0, .int .u64 0, .int .i64 0, .int .u64 0, .slice none 0 0, .slice none 0 0] 32 := D0.kn
  have bp := boxTop (w2.alloc (bxN 1 0 0 0 0 none 0 0 0 0 0 none 0 0 none 0 0)) #[.func (.func 58) #[] #[.pointer (some ⟨w1.heap.size, 0, none⟩), .pointer (some ⟨w2.heap.size, 0, none⟩)], .func (.func 59) #[] #[.pointer (some ⟨w1.heap.size, 0, none⟩), .pointer (some ⟨w2.heap.size, 0, none⟩)], .func (.func 60) #[] #[.pointer (some ⟨w1.heap.size, 0, none⟩), .pointer (some ⟨w2.heap.size, 0, none⟩)], .func (.func 61) #[] #[.pointer (some ⟨w1.heap.size, 0, none⟩), .pointer (some ⟨w2.heap.size, 0, none⟩)]] 1
  have D0b := D0.below (below_alloc _ (.cells #[.func (.func 58) #[] #[.pointer (some ⟨w1.heap.size, 0, none⟩), .pointer (some ⟨w2.heap.size, 0, none⟩)], .func (.func 59) #[] #[.pointer (some ⟨w1.heap.size, 0, none⟩), .pointer (some ⟨w2.heap.size, 0, none⟩)], .func (.func 60) #[] #[.pointer (some ⟨w1.heap.size, 0, none⟩), .pointer (some ⟨w2.heap.size, 0, none⟩)], .func (.func 61) #[] #[.pointer (some ⟨w1.heap.size, 0, none⟩), .pointer (some ⟨w2.heap.size, 0, none⟩)]] 1))
  have T4 := hide (dRead13 w _ g _ _ _ _ _ _ D0b bp (by simp; omega) (by simp))
  simp only [World.size_alloc, e1, e2, e3, e4] at T4
  clear D0 D0b bp
  go_wp2_with fail
  with_reducible refine T4.out.mono ?_
  rintro e w4 ⟨rfl, A4, c4, D4⟩
  clear T4
  haveI := D4.km
  obtain ⟨bs4, bad4⟩ := s4
  have T5 := hide (endR_s g _ (bs4, bad4) w4 D4.rd D4.hl)
  have hcs := D4.kn
  have hok4 : Nt.Ok w4 ⟨1, pn, pi, rd, cd, A4, c4, l, vw0⟩ := ⟨Reads.of_own D4.os, by first | (show (0 : Nat) ≤ _; omega) | (show _ ≤ 1000000; simp only; omega), ⟨Reads.of_own D4.om, Reads.of_own D4.ou, by first | (show (0 : Nat) ≤ _; omega) | (show _ ≤ 1000000; simp only; omega), by first | (show (0 : Nat) ≤ _; omega) | (show _ ≤ 1000000; simp only; omega)⟩⟩
  have T6 := hide (fun W (h : Nt.Ok W ⟨1, pn, pi, rd, cd, A4, c4, l, vw0⟩) => nmay_s ⟨1, pn, pi, rd, cd, A4, c4, l, vw0⟩ W h)
  unfold Nt.v at T6
  simp only [List.length_nil] at T5 T6
  have key : (bad4 = true ∨ 0 < bs4.length) ∨ (¬ (bad4 = true ∨ 0 < bs4.length) ∧ Nt.mayB ⟨1, pn, pi, rd, cd, A4, c4, l, vw0⟩ = false) ∨ (¬ (bad4 = true ∨ 0 < bs4.length) ∧ Nt.mayB ⟨1, pn, pi, rd, cd, A4, c4, l, vw0⟩ = true) := by
    by_cases h : bad4 = true ∨ 0 < bs4.length
    · exact .inl h
    · cases h2 : Nt.mayB ⟨1, pn, pi, rd, cd, A4, c4, l, vw0⟩
      · exact .inr (.inl ⟨h, rfl⟩)
      · exact .inr (.inr ⟨h, rfl⟩)
  have HOK4 := hide hok4
  clear hok4
  rcases key with hk1 | ⟨hk1, hk2⟩ | ⟨hk1, hk2⟩
  · rw [if_pos hk1] at T5
    have HF : Hid (finN ⟨1, pn, pi, rd, cd, none, 0, l, vw0⟩ (bs4, bad4) = none) := hide (show (if bad4 = true ∨ 0 < bs4.length then none else _) = none from if_pos hk1)
    clear hk1
    go_wp2_with fail
    with_reducible refine T5.out.mono ?_
    rintro e w5 ⟨rfl, hR5, hG5⟩
    have D5 := D4.read (s' := (bs4, bad4 || decide (0 < bs4.length))) hG5 hR5 (Nat.le_refl _)
    haveI := D5.k0
    obtain ⟨k6, g6⟩ := set11 D5.k0 (.int .i64 0) (.int .i64 0) (.int .u64 0) (.int .u64 0) (.int .u64 0) (.slice none 0 0) (.int .u64 0) (.int .i64 0) (.int .u64 0) (.slice none 0 0) (.slice none 0 0)
    have HB6 := hide (D5.hB.trans (grown_to_below g6 (Nat.le_refl _) D5.hB.size))
    clear D4 D5 hR5 hG5 T5 T6
    go_wp2
    generalize ((((((((((w5.setCell ⟨w.heap.size, 0, none⟩ (.int .i64 0)).setCell ⟨w.heap.size, 1, none⟩ (.int .i64 0)).setCell ⟨w.heap.size, 2, none⟩ (.int .u64 0)).setCell ⟨w.heap.size, 3, none⟩ (.int .u64 0)).setCell ⟨w.heap.size, 4, none⟩ (.int .u64 0)).setCell ⟨w.heap.size, 5, none⟩ (.slice none 0 0)).setCell ⟨w.heap.size, 6, none⟩ (.int .u64 0)).setCell ⟨w.heap.size, 7, none⟩ (.int .i64 0)).setCell ⟨w.heap.size, 8, none⟩ (.int .u64 0)).setCell ⟨w.heap.size, 9, none⟩ (.slice none 0 0)).setCell ⟨w.heap.size, 10, none⟩ (.slice none 0 0) = W6 at k6 HB6 ⊢
    haveI := k6
    refine bodyPost_ret (v := .tuple #[.agg #[.int .i64 0, .int .i64 0, .int .u64 0, .int .u64 0, .int .u64 0, .slice none 0 0, .int .u64 0, .int .i64 0, .int .u64 0, .slice none 0 0, .slice none 0 0], .int .i64 3]) (by simp [results, Tryz.results21, go_sem]) rfl ?_
    rw [HF.out]
    exact RetDec.no HB6.out
  · rw [if_neg hk1] at T5
    have HF : Hid (finN ⟨1, pn, pi, rd, cd, none, 0, l, vw0⟩ (bs4, bad4) = none) := hide ((if_neg hk1).trans (if_pos hk2))
    rw [hk2] at T6
    clear hk1 hk2
    go_wp2_with fail
    with_reducible refine T5.out.mono ?_
    rintro e w5 ⟨rfl, hR5, hG5⟩
    have D5 := D4.read (s' := (bs4, bad4 || decide (0 < bs4.length))) hG5 hR5 (Nat.le_refl _)
    haveI : BoxAt w5 w2.heap.size #[.int .i64 1, .int .i64 pn, .int .u64 pi, .int .u64 rd, .int .u64 cd, .slice A4 l.length c4, .int .u64 0, .int .i64 0, .int .u64 0, .slice none 0 0, .slice none 0 0] 32 := D5.kn
    have ok5 : Nt.Ok w5 ⟨1, pn, pi, rd, cd, A4, c4, l, vw0⟩ := ⟨Reads.of_own D5.os, HOK4.out.sl, ⟨Reads.of_own D5.om, Reads.of_own D5.ou, HOK4.out.vk.ml, HOK4.out.vk.ul⟩⟩
    clear D4 hR5 hG5 T5
    go_wp2_with fail
    (with_reducible refine (T6.out _ ok5).mono ?_)
    rintro e w7 ⟨rfl, hb7⟩
    have D7 := D5.below hb7
    haveI := D7.k0
    obtain ⟨k6, g6⟩ := set11 D7.k0 (.int .i64 0) (.int .i64 0) (.int .u64 0) (.int .u64 0) (.int .u64 0) (.slice none 0 0) (.int .u64 0) (.int .i64 0) (.int .u64 0) (.slice none 0 0) (.slice none 0 0)
    have HB6 := hide (D7.hB.trans (grown_to_below g6 (Nat.le_refl _) D7.hB.size))
    clear D5 D7 T6 ok5 hb7
    go_wp2
    generalize ((((((((((w7.setCell ⟨w.heap.size, 0, none⟩ (.int .i64 0)).setCell ⟨w.heap.size, 1, none⟩ (.int .i64 0)).setCell ⟨w.heap.size, 2, none⟩ (.int .u64 0)).setCell ⟨w.heap.size, 3, none⟩ (.int .u64 0)).setCell ⟨w.heap.size, 4, none⟩ (.int .u64 0)).setCell ⟨w.heap.size, 5, none⟩ (.slice none 0 0)).setCell ⟨w.heap.size, 6, none⟩ (.int .u64 0)).setCell ⟨w.heap.size, 7, none⟩ (.int .i64 0)).setCell ⟨w.heap.size, 8, none⟩ (.int .u64 0)).setCell ⟨w.heap.size, 9, none⟩ (.slice none 0 0)).setCell ⟨w.heap.size, 10, none⟩ (.slice none 0 0) = W6 at k6 HB6 ⊢
    haveI := k6
    refine bodyPost_ret (v := .tuple #[.agg #[.int .i64 0, .int .i64 0, .int .u64 0, .int .u64 0, .int .u64 0, .slice none 0 0, .int .u64 0, .int .i64 0, .int .u64 0, .slice none 0 0, .slice none 0 0], .int .i64 3]) (by simp [results, Tryz.results21, go_sem]) rfl ?_
    rw [HF.out]
    exact RetDec.no HB6.out
  · rw [if_neg hk1] at T5
    have HF : Hid (finN ⟨1, pn, pi, rd, cd, none, 0, l, vw0⟩ (bs4, bad4) = some ⟨1, pn, pi, rd, cd, none, 0, l, vw0⟩) := hide ((if_neg hk1).trans (if_neg (by intro h; have h' : Nt.mayB ⟨1, pn, pi, rd, cd, A4, c4, l, vw0⟩ = false := h; rw [hk2] at h'; cases h')))
    rw [hk2] at T6
    clear hk1 hk2
    go_wp2_with fail
    with_reducible refine T5.out.mono ?_
    rintro e w5 ⟨rfl, hR5, hG5⟩
    have D5 := D4.read (s' := (bs4, bad4 || decide (0 < bs4.length))) hG5 hR5 (Nat.le_refl _)
    haveI : BoxAt w5 w2.heap.size #[.int .i64 1, .int .i64 pn, .int .u64 pi, .int .u64 rd, .int .u64 cd, .slice A4 l.length c4, .int .u64 0, .int .i64 0, .int .u64 0, .slice none 0 0, .slice none 0 0] 32 := D5.kn
    have ok5 : Nt.Ok w5 ⟨1, pn, pi, rd, cd, A4, c4, l, vw0⟩ := ⟨Reads.of_own D5.os, HOK4.out.sl, ⟨Reads.of_own D5.om, Reads.of_own D5.ou, HOK4.out.vk.ml, HOK4.out.vk.ul⟩⟩
    clear D4 hR5 hG5 T5
    go_wp2_with fail
    (with_reducible refine (T6.out _ ok5).mono ?_)
    rintro e w7 ⟨rfl, hb7⟩
    have D7 := D5.below hb7
    haveI := D7.k0
    haveI : BoxAt w7 w2.heap.size #[.int .i64 1, .int .i64 pn, .int .u64 pi, .int .u64 rd, .int .u64 cd, .slice A4 l.length c4, .int .u64 0, .int .i64 0, .int .u64 0, .slice none 0 0, .slice none 0 0] 32 := D7.kn
    obtain ⟨k6, g6⟩ := set11 D7.k0 (.int .i64 1) (.int .i64 pn) (.int .u64 pi) (.int .u64 rd) (.int .u64 cd) (.slice A4 l.length c4) (.int .u64 0) (.int .i64 0) (.int .u64 0) (.slice none 0 0) (.slice none 0 0)
    have HB6 := hide (D7.hB.trans (grown_to_below g6 (Nat.le_refl _) D7.hB.size))
    have q1 := own_grown D7.os g6 (by omega)
    have q2 := own_grown D7.om g6 (by omega)
    have q3 := own_grown D7.ou g6 (by omega)
    have HQ1 := hide q1
    have HQ2 := hide q2
    have HQ3 := hide q3
    clear D5 D7 T6 ok5 hb7 q1 q2 q3
    go_wp2
    generalize ((((((((((w7.setCell ⟨w.heap.size, 0, none⟩ (.int .i64 1)).setCell ⟨w.heap.size, 1, none⟩ (.int .i64 pn)).setCell ⟨w.heap.size, 2, none⟩ (.int .u64 pi)).setCell ⟨w.heap.size, 3, none⟩ (.int .u64 rd)).setCell ⟨w.heap.size, 4, none⟩ (.int .u64 cd)).setCell ⟨w.heap.size, 5, none⟩ (.slice A4 l.length c4)).setCell ⟨w.heap.size, 6, none⟩ (.int .u64 0)).setCell ⟨w.heap.size, 7, none⟩ (.int .i64 0)).setCell ⟨w.heap.size, 8, none⟩ (.int .u64 0)).setCell ⟨w.heap.size, 9, none⟩ (.slice none 0 0)).setCell ⟨w.heap.size, 10, none⟩ (.slice none 0 0) = W6 at k6 HB6 HQ1 HQ2 HQ3 ⊢
    haveI := k6
    refine bodyPost_ret (v := .tuple #[.agg #[.int .i64 1, .int .i64 pn, .int .u64 pi, .int .u64 rd, .int .u64 cd, .slice A4 l.length c4, .int .u64 0, .int .i64 0, .int .u64 0, .slice none 0 0, .slice none 0 0], .int .i64 0]) (by simp [results, Tryz.results21, go_sem]) rfl ?_
    rw [HF.out]
    exact ⟨_, _, _, _, _, _, rfl, ⟨Reads.of_own HQ1.out, HOK4.out.sl, ⟨Reads.of_own HQ2.out, Reads.of_own HQ3.out, HOK4.out.vk.ml, HOK4.out.vk.ul⟩⟩, HB6.out⟩
set_option maxRecDepth 100000 in
set_option maxHeartbeats 4000000 in
theorem dec3 (A : Option Addr) (c : Nat) (bs : List Int) (w : World) (hr : Reads w w.heap.size 1 A bs.length (bcs bs)) (hn : bs.length ≤ 1000000) (hok : bOK bs) (s s1 s2 s3 s4 : RS) (pn pi rd cd : Int) (l : List Pr) (e1 : rGet s = ((pn, pi), s1)) (e2 : rUint s1 = (rd, s2)) (e3 : rUint s2 = (cd, s3)) (e4 : rGetSet 6 s3 = (l, s4)) (hll : l.length ≤ 1000000) (hu : rU8 (bs, false) = (3, s)) :
    Calls Tryz.prog 21 #[.slice A bs.length c] w (RetDec w (finN ⟨3, pn, pi, rd, cd, none, 0, l, vw0⟩ s4)) := by
  have T1 := hide (newReader_s A c bs _ ((Reads.below hr (below_alloc w (bxN 0 0 0 0 0 none 0 0 0 0 0 none 0 0 none 0 0))).more (by simp)) hn hok)
  have hl1 := rU8_len (bs, false)
  have hrg := rU8_range (s := (bs, false)) hok
  have T2 : Hid (∀ g B W, Rds W g B bs false → Calls Tryz.prog 49 #[.pointer (some ⟨g, 0, none⟩)] W (RetR g B W (.int .u8 3) s)) := hide (fun g B W h => by
    have := u8R_s g B (bs, false) W h
    rw [hu] at this; exact this)
  rw [hu] at hl1 hrg
  simp only at hl1 hrg
  clear hr hu
  go_enter Tryz.func21, Tryz.ntmps21
  go_wp2_with fail
  with_reducible refine T1.out.mono ?_
  rintro e w1 ⟨g, rfl, hg, hR1, hb1⟩
  have p0 := (boxTop w #[.int .i64 0, .int .i64 0, .int .u64 0, .int .u64 0, .int .u64 0, .slice none 0 0, .int .u64 0, .int .i64 0, .int .u64 0, .slice none 0 0, .slice none 0 0] 32).step hb1
  have hB1 := below_step (below_alloc w (bxN 0 0 0 0 0 none 0 0 0 0 0 none 0 0 none 0 0)) hb1
  simp only [World.size_alloc] at hg
  have hgt := hR1.top
  have hbA := below_alloc w1 (.cells #[.pointer (some ⟨g, 0, none⟩)] 80)
  have pm := boxTop w1 #[.pointer (some ⟨g, 0, none⟩)] 80
  haveI := pm
  have T3 := hide (T2.out g _ _ (hR1.step hbA))
  clear T1 T2 hb1
  go_wp2_with fail
  with_reducible refine T3.out.mono ?_
  rintro e w2 ⟨rfl, hR2, hG2⟩
  have hm2 := (pm.grown hG2 (by omega))
  have hlt2 := hm2.lt
  have D0 : DN w g w1.heap.size w1.heap.size w2.heap.size ⟨3, 0, 0, 0, 0, none, 0, [], vw0⟩ s (w2.alloc (bxN 3 0 0 0 0 none 0 0 0 0 0 none 0 0 none 0 0)) :=
    ⟨((p0.alloc' _).grown hG2 (by omega)).alloc' _, hm2.alloc' _, boxTop w2 _ _, hR2.step (below_alloc _ _), World.ownsRow_nil _ _ _ _, World.ownsRow_nil _ _ _ _, World.ownsRow_nil _ _ _ _,
      below_step ((below_step hB1 hbA).trans (grown_to_below hG2 (by omega) (by have := hB1.size; simp; omega))) (below_alloc _ _), by omega, hgt, Nat.le_refl _, hlt2, Nat.le_trans hl1 hn⟩
  have hB2 := hB1.size
  clear hR1 hR2 hG2 pm hm2 hbA hB1 p0 T3
  haveI := D0.km
  haveI : BoxAt (w2.alloc (bxN 3 0 0 0 0 none 0 0 0 0 0 none 0 0 none 0 0)) w2.heap.size #[.int .i64 3, .int .i64 0, .int .u64 0, .int .u64 0, .int .u64 0, .slice none 0 0, .int .u64 0, .int .i64 0, .int .u64 0, .slice none 0 0, .slice none 0 0] 32 := D0.kn
  have bp := boxTop (w2.alloc (bxN 3 0 0 0 0 none 0 0 0 0 0 none 0 0 none 0 0)) #[.func (.func 58) #[] #[.pointer (some ⟨w1.heap.size, 0, none⟩), .pointer (some ⟨w2.heap.size, 0, none⟩)], .func (.func 59) #[] #[.pointer (some ⟨w1.heap.size, 0, none⟩), .pointer (some ⟨w2.heap.size, 0, none⟩)], .func (.func 60) #[] #[.pointer (some ⟨w1.heap.size, 0, none⟩), .pointer (some ⟨w2.heap.size, 0, none⟩)], .func (.func 61) #[] #[.pointer (some ⟨w1.heap.size, 0, none⟩), .pointer (some ⟨w2.heap.size, 0, none⟩)]] 1
  have D0b := D0.below (below_alloc _ (.cells #[.func (.func 58) #[] #[.pointer (some ⟨w1.heap.size, 0, none⟩), .pointer (some ⟨w2.heap.size, 0, none⟩)], .func (.func 59) #[] #[.pointer (some ⟨w1.heap.size, 0, none⟩), .pointer (some ⟨w2.heap.size, 0, none⟩)], .func (.func 60) #[] #[.pointer (some ⟨w1.heap.size, 0, none⟩), .pointer (some ⟨w2.heap.size, 0, none⟩)], .func (.func 61) #[] #[.pointer (some ⟨w1.heap.size, 0, none⟩), .pointer (some ⟨w2.heap.size, 0, none⟩)]] 1))
  have T4 := hide (dRead13 w _ g _ _ _ _ _ _ D0b bp (by simp; omega) (by simp))
  simp only [World.size_alloc, e1, e2, e3, e4] at T4
  clear D0 D0b bp
  go_wp2_with fail
  with_reducible refine T4.out.mono ?_
  rintro e w4 ⟨rfl, A4, c4, D4⟩
  clear T4
  haveI := D4.km
  obtain ⟨bs4, bad4⟩ := s4
  have T5 := hide (endR_s g _ (bs4, bad4) w4 D4.rd D4.hl)
  have hcs := D4.kn
  have hok4 : Nt.Ok w4 ⟨3, pn, pi, rd, cd, A4, c4, l, vw0⟩ := ⟨Reads.of_own D4.os, by first | (show (0 : Nat) ≤ _; omega) | (show _ ≤ 1000000; simp only; omega), ⟨Reads.of_own D4.om, Reads.of_own D4.ou, by first | (show (0 : Nat) ≤ _; omega) | (show _ ≤ 1000000; simp only; omega), by first | (show (0 : Nat) ≤ _; omega) | (show _ ≤ 1000000; simp only; omega)⟩⟩
  have T6 := hide (fun W (h : Nt.Ok W ⟨3, pn, pi, rd, cd, A4, c4, l, vw0⟩) => nmay_s ⟨3, pn, pi, rd, cd, A4, c4, l, vw0⟩ W h)
  unfold Nt.v at T6
  simp only [List.length_nil] at T5 T6
  have key : (bad4 = true ∨ 0 < bs4.length) ∨ (¬ (bad4 = true ∨ 0 < bs4.length) ∧ Nt.mayB ⟨3, pn, pi, rd, cd, A4, c4, l, vw0⟩ = false) ∨ (¬ (bad4 = true ∨ 0 < bs4.length) ∧ Nt.mayB ⟨3, pn, pi, rd, cd, A4, c4, l, vw0⟩ = true) := by
    by_cases h : bad4 = true ∨ 0 < bs4.length
    · exact .inl h
    · cases h2 : Nt.mayB ⟨3, pn, pi, rd, cd, A4, c4, l, vw0⟩
      · exact .inr (.inl ⟨h, rfl⟩)
      · exact .inr (.inr ⟨h, rfl⟩)
  have HOK4 := hide hok4
  clear hok4
  rcases key with hk1 | ⟨hk1, hk2⟩ | ⟨hk1, hk2⟩
  · rw [if_pos hk1] at T5
    have HF : Hid (finN ⟨3, pn, pi, rd, cd, none, 0, l, vw0⟩ (bs4, bad4) = none) := hide (show (if bad4 = true ∨ 0 < bs4.length then none else _) = none from if_pos hk1)
    clear hk1
    go_wp2_with fail
    with_reducible refine T5.out.mono ?_
    rintro e w5 ⟨rfl, hR5, hG5⟩
    have D5 := D4.read (s' := (bs4, bad4 || decide (0 < bs4.length))) hG5 hR5 (Nat.le_refl _)
    haveI := D5.k0
    obtain ⟨k6, g6⟩ := set11 D5.k0 (.int .i64 0) (.int .i64 0) (.int .u64 0) (.int .u64 0) (.int .u64 0) (.slice none 0 0) (.int .u64 0) (.int .i64 0) (.int .u64 0) (.slice none 0 0) (.slice none 0 0)
    have HB6 := hide (D5.hB.trans (grown_to_below g6 (Nat.le_refl _) D5.hB.size))
    clear D4 D5 hR5 hG5 T5 T6
    go_wp2
    generalize ((((((((((w5.setCell ⟨w.heap.size, 0, none⟩ (.int .i64 0)).setCell ⟨w.heap.size, 1, none⟩ (.int .i64 0)).setCell ⟨w.heap.size, 2, none⟩ (.int .u64 0)).setCell ⟨w.heap.size, 3, none⟩ (.int .u64 0)).setCell ⟨w.heap.size, 4, none⟩ (.int .u64 0)).setCell ⟨w.heap.size, 5, none⟩ (.slice none 0 0)).setCell ⟨w.heap.size, 6, none⟩ (.int .u64 0)).setCell ⟨w.heap.size, 7, none⟩ (.int .i64 0)).setCell ⟨w.heap.size, 8, none⟩ (.int .u64 0)).setCell ⟨w.heap.size, 9, none⟩ (.slice none 0 0)).setCell ⟨w.heap.size, 10, none⟩ (.slice none 0 0) = W6 at k6 HB6 ⊢
    haveI := k6
    refine bodyPost_ret (v := .tuple #[.agg #[.int .i64 0, .int .i64 0, .int .u64 0, .int .u64 0, .int .u64 0, .slice none 0 0, .int .u64 0, .int .i64 0, .int .u64 0, .slice none 0 0, .slice none 0 0], .int .i64 3]) (by simp [results, Tryz.results21, go_sem]) rfl ?_
    rw [HF.out]
    exact RetDec.no HB6.out
  · rw [if_neg hk1] at T5
    have HF : Hid (finN ⟨3, pn, pi, rd, cd, none, 0, l, vw0⟩ (bs4, bad4) = none) := hide ((if_neg hk1).trans (if_pos hk2))
    rw [hk2] at T6
    clear hk1 hk2
    go_wp2_with fail
    with_reducible refine T5.out.mono ?_
    rintro e w5 ⟨rfl, hR5, hG5⟩
    have D5 := D4.read (s' := (bs4, bad4 || decide (0 < bs4.length))) hG5 hR5 (Nat.le_refl _)
    haveI : BoxAt w5 w2.heap.size #[.int .i64 3, .int .i64 pn, .int .u64 pi, .int .u64 rd, .int .u64 cd, .slice A4 l.length c4, .int .u64 0, .int .i64 0, .int .u64 0, .slice none 0 0, .slice none 0 0] 32 := D5.kn
    have ok5 : Nt.Ok w5 ⟨3, pn, pi, rd, cd, A4, c4, l, vw0⟩ := ⟨Reads.of_own D5.os, HOK4.out.sl, ⟨Reads.of_own D5.om, Reads.of_own D5.ou, HOK4.out.vk.ml, HOK4.out.vk.ul⟩⟩
    clear D4 hR5 hG5 T5
    go_wp2_with fail
    (with_reducible refine (T6.out _ ok5).mono ?_)
    rintro e w7 ⟨rfl, hb7⟩
    have D7 := D5.below hb7
    haveI := D7.k0
    obtain ⟨k6, g6⟩ := set11 D7.k0 (.int .i64 0) (.int .i64 0) (.int .u64 0) (.int .u64 0) (.int .u64 0) (.slice none 0 0) (.int .u64 0) (.int .i64 0) (.int .u64 0) (.slice none 0 0) (.slice none 0 0)
    have HB6 := hide (D7.hB.trans (grown_to_below g6 (Nat.le_refl _) D7.hB.size))
    clear D5 D7 T6 ok5 hb7
    go_wp2
    generalize ((((((((((w7.setCell ⟨w.heap.size, 0, none⟩ (.int .i64 0)).setCell ⟨w.heap.size, 1, none⟩ (.int .i64 0)).setCell ⟨w.heap.size, 2, none⟩ (.int .u64 0)).setCell ⟨w.heap.size, 3, none⟩ (.int .u64 0)).setCell ⟨w.heap.size, 4, none⟩ (.int .u64 0)).setCell ⟨w.heap.size, 5, none⟩ (.slice none 0 0)).setCell ⟨w.heap.size, 6, none⟩ (.int .u64 0)).setCell ⟨w.heap.size, 7, none⟩ (.int .i64 0)).setCell ⟨w.heap.size, 8, none⟩ (.int .u64 0)).setCell ⟨w.heap.size, 9, none⟩ (.slice none 0 0)).setCell ⟨w.heap.size, 10, none⟩ (.slice none 0 0) = W6 at k6 HB6 ⊢
    haveI := k6
    refine bodyPost_ret (v := .tuple #[.agg #[.int .i64 0, .int .i64 0, .int .u64 0, .int .u64 0, .int .u64 0, .slice none 0 0, .int .u64 0, .int .i64 0, .int .u64 0, .slice none 0 0, .slice none 0 0], .int .i64 3]) (by simp [results, Tryz.results21, go_sem]) rfl ?_
    rw [HF.out]
    exact RetDec.no HB6.out
  · rw [if_neg hk1] at T5
    have HF : Hid (finN ⟨3, pn, pi, rd, cd, none, 0, l, vw0⟩ (bs4, bad4) = some ⟨3, pn, pi, rd, cd, none, 0, l, vw0⟩) := hide ((if_neg hk1).trans (if_neg (by intro h; have h' : Nt.mayB ⟨3, pn, pi, rd, cd, A4, c4, l, vw0⟩ = false := h; rw [hk2] at h'; cases h')))
    rw [hk2] at T6
    clear hk1 hk2
    go_wp2_with fail
    with_reducible refine T5.out.mono ?_
    rintro e w5 ⟨rfl, hR5, hG5⟩
    have D5 := D4.read (s' := (bs4, bad4 || decide (0 < bs4.length))) hG5 hR5 (Nat.le_refl _)
    haveI : BoxAt w5 w2.heap.size #[.int .i64 3, .int .i64 pn, .int .u64 pi, .int .u64 rd, .int .u64 cd, .slice A4 l.length c4, .int .u64 0, .int .i64 0, .int .u64 0, .slice none 0 0, .slice none 0 0] 32 := D5.kn
    have ok5 : Nt.Ok w5 ⟨3, pn, pi, rd, cd, A4, c4, l, vw0⟩ := ⟨Reads.of_own D5.os, HOK4.out.sl, ⟨Reads.of_own D5.om, Reads.of_own D5.ou, HOK4.out.vk.ml, HOK4.out.vk.ul⟩⟩
    clear D4 hR5 hG5 T5
    go_wp2_with fail
    (with_reducible refine (T6.out _ ok5).mono ?_)
    rintro e w7 ⟨rfl, hb7⟩
    have D7 := D5.below hb7
    haveI := D7.k0
    haveI : BoxAt w7 w2.heap.size #[.int .i64 3, .int .i64 pn, .int .u64 pi, .int .u64 rd, .int .u64 cd, .slice A4 l.length c4, .int .u64 0, .int .i64 0, .int .u64 0, .slice none 0 0, .slice none 0 0] 32 := D7.kn
    obtain ⟨k6, g6⟩ := set11 D7.k0 (.int .i64 3) (.int .i64 pn) (.int .u64 pi) (.int .u64 rd) (.int .u64 cd) (.slice A4 l.length c4) (.int .u64 0) (.int .i64 0) (.int .u64 0) (.slice none 0 0) (.slice none 0 0)
    have HB6 := hide (D7.hB.trans (grown_to_below g6 (Nat.le_refl _) D7.hB.size))
    have q1 := own_grown D7.os g6 (by omega)
    have q2 := own_grown D7.om g6 (by omega)
    have q3 := own_grown D7.ou g6 (by omega)
    have HQ1 := hide q1
    have HQ2 := hide q2
    have HQ3 := hide q3
    clear D5 D7 T6 ok5 hb7 q1 q2 q3
    go_wp2
    generalize ((((((((((w7.setCell ⟨w.heap.size, 0, none⟩ (.int .i64 3)).setCell ⟨w.heap.size, 1, none⟩ (.int .i64 pn)).setCell ⟨w.heap.size, 2, none⟩ (.int .u64 pi)).setCell ⟨w.heap.size, 3, none⟩ (.int .u64 rd)).setCell ⟨w.heap.size, 4, none⟩ (.int .u64 cd)).setCell ⟨w.heap.size, 5, none⟩ (.slice A4 l.length c4)).setCell ⟨w.heap.size, 6, none⟩ (.int .u64 0)).setCell ⟨w.heap.size, 7, none⟩ (.int .i64 0)).setCell ⟨w.heap.size, 8, none⟩ (.int .u64 0)).setCell ⟨w.heap.size, 9, none⟩ (.slice none 0 0)).setCell ⟨w.heap.size, 10, none⟩ (.slice none 0 0) = W6 at k6 HB6 HQ1 HQ2 HQ3 ⊢
    haveI := k6
    refine bodyPost_ret (v := .tuple #[.agg #[.int .i64 3, .int .i64 pn, .int .u64 pi, .int .u64 rd, .int .u64 cd, .slice A4 l.length c4, .int .u64 0, .int .i64 0, .int .u64 0, .slice none 0 0, .slice none 0 0], .int .i64 0]) (by simp [results, Tryz.results21, go_sem]) rfl ?_
    rw [HF.out]
    exact ⟨_, _, _, _, _, _, rfl, ⟨Reads.of_own HQ1.out, HOK4.out.sl, ⟨Reads.of_own HQ2.out, Reads.of_own HQ3.out, HOK4.out.vk.ml, HOK4.out.vk.ul⟩⟩, HB6.out⟩
set_option maxRecDepth 100000 in
set_option maxHeartbeats 4000000 in
theorem dec4 (A : Option Addr) (c : Nat) (bs : List Int) (w : World) (hr : Reads w w.heap.size 1 A bs.length (bcs bs)) (hn : bs.length ≤ 1000000) (hok : bOK bs) (s s1 s3 s4 : RS) (pn pi cd : Int) (l : List Pr) (e1 : rGet s = ((pn, pi), s1)) (e3 : rUint s1 = (cd, s3)) (e4 : rGetSet 6 s3 = (l, s4)) (hll : l.length ≤ 1000000) (hu : rU8 (bs, false) = (4, s)) :
    Calls Tryz.prog 21 #[.slice A bs.length c] w (RetDec w (finN ⟨4, pn, pi, 0, cd, none, 0, l, vw0⟩ s4)) := by
  have T1 := hide (newReader_s A c bs _ ((Reads.below hr (below_alloc w (bxN 0 0 0 0 0 none 0 0 0 0 0 none 0 0 none 0 0))).more (by simp)) hn hok)
  have hl1 := rU8_len (bs, false)
  have hrg := rU8_range (s := (bs, false)) hok
  have T2 : Hid (∀ g B W, Rds W g B bs false → Calls Tryz.prog 49 #[.pointer (some ⟨g, 0, none⟩)] W (RetR g B W (.int .u8 4) s)) := hide (fun g B W h => by
    have := u8R_s g B (bs, false) W h
    rw [hu] at this; exact this)
  rw [hu] at hl1 hrg
  simp only at hl1 hrg
  clear hr hu
  go_enter Tryz.func21, Tryz.ntmps21
  go_wp2_with fail
  with_reducible refine T1.out.mono ?_
  rintro e w1 ⟨g, rfl, hg, hR1, hb1⟩
  have p0 := (boxTop w #[.int .i64 0, .int .i64 0, .int .u64 0, .int .u64 0, .int .u64 0, .slice none 0 0, .int .u64 0, .int .i64 0, .int .u64 0, .slice none 0 0, .slice none 0 0] 32).step hb1
  have hB1 := below_step (below_alloc w (bxN 0 0 0 0 0 none 0 0 0 0 0 none 0 0 none 0 0)) hb1
  simp only [World.size_alloc] at hg
  have hgt := hR1.top
  have hbA := below_alloc w1 (.cells #[.pointer (some ⟨g, 0, none⟩)] 80)
  have pm := boxTop w1 #[.pointer (some ⟨g, 0, none⟩)] 80
  haveI := pm
  have T3 := hide (T2.out g _ _ (hR1.step hbA))
  clear T1 T2 hb1
  go_wp2_with fail
  with_reducible refine T3.out.mono ?_
  rintro e w2 ⟨rfl, hR2, hG2⟩
  have hm2 := (pm.grown hG2 (by omega))
  have hlt2 := hm2.lt
  have D0 : DN w g w1.heap.size w1.heap.size w2.heap.size ⟨4, 0, 0, 0, 0, none, 0, [], vw0⟩ s (w2.alloc (bxN 4 0 0 0 0 none 0 0 0 0 0 none 0 0 none 0 0)) :=
    ⟨((p0.alloc' _).grown hG2 (by omega)).alloc' _, hm2.alloc' _, boxTop w2 _ _, hR2.step (below_alloc _ _), World.ownsRow_nil _ _ _ _, World.ownsRow_nil _ _ _ _, World.ownsRow_nil _ _ _ _,
      below_step ((below_step hB1 hbA).trans (grown_to_below hG2 (by omega) (by have := hB1.size; simp; omega))) (below_alloc _ _), by omega, hgt, Nat.le_refl _, hlt2, Nat.le_trans hl1 hn⟩
  have hB2 := hB1.size
  clear hR1 hR2 hG2 pm hm2 hbA hB1 p0 T3
  haveI := D0.km
  haveI : BoxAt (w2.alloc (bxN 4 0 0 0 0 none 0 0 0 0 0 none 0 0 none 0 0)) w2.heap.size #[.int .i64 4, .int .i64 0, .int .u64 0, .int .u64 0, .int .u64 0, .slice none 0 0, .int .u64 0, .int .i64 0, .int .u64 0, .slice none 0 0, .slice none 0 0] 32 := D0.kn
  have bp := boxTop (w2.alloc (bxN 4 0 0 0 0 none 0 0 0 0 0 none 0 0 none 0 0)) #[.func (.func 58) #[] #[.pointer (some ⟨w1.heap.size, 0, none⟩), .pointer (some ⟨w2.heap.size, 0, none⟩)], .func (.func 60) #[] #[.pointer (some ⟨w1.heap.size, 0, none⟩), .pointer (some ⟨w2.heap.size, 0, none⟩)], .func (.func 61) #[] #[.pointer (some ⟨w1.heap.size, 0, none⟩), .pointer (some ⟨w2.heap.size, 0, none⟩)]] 1
  have D0b := D0.below (below_alloc _ (.cells #[.func (.func 58) #[] #[.pointer (some ⟨w1.heap.size, 0, none⟩), .pointer (some ⟨w2.heap.size, 0, none⟩)], .func (.func 60) #[] #[.pointer (some ⟨w1.heap.size, 0, none⟩), .pointer (some ⟨w2.heap.size, 0, none⟩)], .func (.func 61) #[] #[.pointer (some ⟨w1.heap.size, 0, none⟩), .pointer (some ⟨w2.heap.size, 0, none⟩)]] 1))
  have T4 := hide (dRead4 w _ g _ _ _ _ _ _ D0b bp (by simp; omega) (by simp))
  simp only [World.size_alloc, e1, e3, e4] at T4
  clear D0 D0b bp
  go_wp2_with fail
  with_reducible refine T4.out.mono ?_
  rintro e w4 ⟨rfl, A4, c4, D4⟩
  clear T4
  haveI := D4.km
  obtain ⟨bs4, bad4⟩ := s4
  have T5 := hide (endR_s g _ (bs4, bad4) w4 D4.rd D4.hl)
  have hcs := D4.kn
  have hok4 : Nt.Ok w4 ⟨4, pn, pi, 0, cd, A4, c4, l, vw0⟩ := ⟨Reads.of_own D4.os, by first | (show (0 : Nat) ≤ _; omega) | (show _ ≤ 1000000; simp only; omega), ⟨Reads.of_own D4.om, Reads.of_own D4.ou, by first | (show (0 : Nat) ≤ _; omega) | (show _ ≤ 1000000; simp only; omega), by first | (show (0 : Nat) ≤ _; omega) | (show _ ≤ 1000000; simp only; omega)⟩⟩
  have T6 := hide (fun W (h : Nt.Ok W ⟨4, pn, pi, 0, cd, A4, c4, l, vw0⟩) => nmay_s ⟨4, pn, pi, 0, cd, A4, c4, l, vw0⟩ W h)
  unfold Nt.v at T6
  simp only [List.length_nil] at T5 T6
  have key : (bad4 = true ∨ 0 < bs4.length) ∨ (¬ (bad4 = true ∨ 0 < bs4.length) ∧ Nt.mayB ⟨4, pn, pi, 0, cd, A4, c4, l, vw0⟩ = false) ∨ (¬ (bad4 = true ∨ 0 < bs4.length) ∧ Nt.mayB ⟨4, pn, pi, 0, cd, A4, c4, l, vw0⟩ = true) := by
    by_cases h : bad4 = true ∨ 0 < bs4.length
    · exact .inl h
    · cases h2 : Nt.mayB ⟨4, pn, pi, 0, cd, A4, c4, l, vw0⟩
      · exact .inr (.inl ⟨h, rfl⟩)
      · exact .inr (.inr ⟨h, rfl⟩)
  have HOK4 := hide hok4
  clear hok4
  rcases key with hk1 | ⟨hk1, hk2⟩ | ⟨hk1, hk2⟩
  · rw [if_pos hk1] at T5
    have HF : Hid (finN ⟨4, pn, pi, 0, cd, none, 0, l, vw0⟩ (bs4, bad4) = none) := hide (show (if bad4 = true ∨ 0 < bs4.length then none else _) = none from if_pos hk1)
    clear hk1
    go_wp2_with fail
    with_reducible refine T5.out.mono ?_
    rintro e w5 ⟨rfl, hR5, hG5⟩
    have D5 := D4.read (s' := (bs4, bad4 || decide (0 < bs4.length))) hG5 hR5 (Nat.le_refl _)
    haveI := D5.k0
    obtain ⟨k6, g6⟩ := set11 D5.k0 (.int .i64 0) (.int .i64 0) (.int .u64 0) (.int .u64 0) (.int .u64 0) (.slice none 0 0) (.int .u64 0) (.int .i64 0) (.int .u64 0) (.slice none 0 0) (.slice none 0 0)
    have HB6 := hide (D5.hB.trans (grown_to_below g6 (Nat.le_refl _) D5.hB.size))
    clear D4 D5 hR5 hG5 T5 T6
    go_wp2
    generalize ((((((((((w5.setCell ⟨w.heap.size, 0, none⟩ (.int .i64 0)).setCell ⟨w.heap.size, 1, none⟩ (.int .i64 0)).setCell ⟨w.heap.size, 2, none⟩ (.int .u64 0)).setCell ⟨w.heap.size, 3, none⟩ (.int .u64 0)).setCell ⟨w.heap.size, 4, none⟩ (.int .u64 0)).setCell ⟨w.heap.size, 5, none⟩ (.slice none 0 0)).setCell ⟨w.heap.size, 6, none⟩ (.int .u64 0)).setCell ⟨w.heap.size, 7, none⟩ (.int .i64 0)).setCell ⟨w.heap.size, 8, none⟩ (.int .u64 0)).setCell ⟨w.heap.size, 9, none⟩ (.slice none 0 0)).setCell ⟨w.heap.size, 10, none⟩ (.slice none 0 0) = W6 at k6 HB6 ⊢
    haveI := k6
    refine bodyPost_ret (v := .tuple #[.agg #[.int .i64 0, .int .i64 0, .int .u64 0, .int .u64 0, .int .u64 0, .slice none 0 0, .int .u64 0, .int .i64 0, .int .u64 0, .slice none 0 0, .slice none 0 0], .int .i64 3]) (by simp [results, Tryz.results21, go_sem]) rfl ?_
    rw [HF.out]
    exact RetDec.no HB6.out
  · rw [if_neg hk1] at T5
    have HF : Hid (finN ⟨4, pn, pi, 0, cd, none, 0, l, vw0⟩ (bs4, bad4) = none) := hide ((if_neg hk1).trans (if_pos hk2))
    rw [hk2] at T6
    clear hk1 hk2
    go_wp2_with fail
    with_reducible refine T5.out.mono ?_
    rintro e w5 ⟨rfl, hR5, hG5⟩
    have D5 := D4.read (s' := (bs4, bad4 || decide (0 < bs4.length))) hG5 hR5 (Nat.le_refl _)
    haveI : BoxAt w5 w2.heap.size #[.int .i64 4, .int .i64 pn, .int .u64 pi, .int .u64 0, .int .u64 cd, .slice A4 l.length c4, .int .u64 0, .int .i64 0, .int .u64 0, .slice none 0 0, .slice none 0 0] 32 := D5.kn
    have ok5 : Nt.Ok w5 ⟨4, pn, pi, 0, cd, A4, c4, l, vw0⟩ := ⟨Reads.of_own D5.os, HOK4.out.sl, ⟨Reads.of_own D5.om, Reads.of_own D5.ou, HOK4.out.vk.ml, HOK4.out.vk.ul⟩⟩
    clear D4 hR5 hG5 T5
    go_wp2_with fail
    (with_reducible refine (T6.out _ ok5).mono ?_)
    rintro e w7 ⟨rfl, hb7⟩
    have D7 := D5.below hb7
    haveI := D7.k0
    obtain ⟨k6, g6⟩ := set11 D7.k0 (.int .i64 0) (.int .i64 0) (.int .u64 0) (.int .u64 0) (.int .u64 0) (.slice none 0 0) (.int .u64 0) (.int .i64 0) (.int .u64 0) (.slice none 0 0) (.slice none 0 0)
    have HB6 := hide (D7.hB.trans (grown_to_below g6 (Nat.le_refl _) D7.hB.size))
    clear D5 D7 T6 ok5 hb7
    go_wp2
    generalize ((((((((((w7.setCell ⟨w.heap.size, 0, none⟩ (.int .i64 0)).setCell ⟨w.heap.size, 1, none⟩ (.int .i64 0)).setCell ⟨w.heap.size, 2, none⟩ (.int .u64 0)).setCell ⟨w.heap.size, 3, none⟩ (.int .u64 0)).setCell ⟨w.heap.size, 4, none⟩ (.int .u64 0)).setCell ⟨w.heap.size, 5, none⟩ (.slice none 0 0)).setCell ⟨w.heap.size, 6, none⟩ (.int .u64 0)).setCell ⟨w.heap.size, 7, none⟩ (.int .i64 0)).setCell ⟨w.heap.size, 8, none⟩ (.int .u64 0)).setCell ⟨w.heap.size, 9, none⟩ (.slice none 0 0)).setCell ⟨w.heap.size, 10, none⟩ (.slice none 0 0) = W6 at k6 HB6 ⊢
    haveI := k6
    refine bodyPost_ret (v := .tuple #[.agg #[.int .i64 0, .int .i64 0, .int .u64 0, .int .u64 0, .int .u64 0, .slice none 0 0, .int .u64 0, .int .i64 0, .int .u64 0, .slice none 0 0, .slice none 0 0], .int .i64 3]) (by simp [results, Tryz.results21, go_sem]) rfl ?_
    rw [HF.out]
    exact RetDec.no HB6.out
  · rw [if_neg hk1] at T5
    have HF : Hid (finN ⟨4, pn, pi, 0, cd, none, 0, l, vw0⟩ (bs4, bad4) = some ⟨4, pn, pi, 0, cd, none, 0, l, vw0⟩) := hide ((if_neg hk1).trans (if_neg (by intro h; have h' : Nt.mayB ⟨4, pn, pi, 0, cd, A4, c4, l, vw0⟩ = false := h; rw [hk2] at h'; cases h')))
    rw [hk2] at T6
    clear hk1 hk2
    go_wp2_with fail
    with_reducible refine T5.out.mono ?_
    rintro e w5 ⟨rfl, hR5, hG5⟩
    have D5 := D4.read (s' := (bs4, bad4 || decide (0 < bs4.length))) hG5 hR5 (Nat.le_refl _)
    haveI : BoxAt w5 w2.heap.size #[.int .i64 4, .int .i64 pn, .int .u64 pi, .int .u64 0, .int .u64 cd, .slice A4 l.length c4, .int .u64 0, .int .i64 0, .int .u64 0, .slice none 0 0, .slice none 0 0] 32 := D5.kn
    have ok5 : Nt.Ok w5 ⟨4, pn, pi, 0, cd, A4, c4, l, vw0⟩ := ⟨Reads.of_own D5.os, HOK4.out.sl, ⟨Reads.of_own D5.om, Reads.of_own D5.ou, HOK4.out.vk.ml, HOK4.out.vk.ul⟩⟩
    clear D4 hR5 hG5 T5
    go_wp2_with fail
    (with_reducible refine (T6.out _ ok5).mono ?_)
    rintro e w7 ⟨rfl, hb7⟩
    have D7 := D5.below hb7
    haveI := D7.k0
    haveI : BoxAt w7 w2.heap.size #[.int .i64 4, .int .i64 pn, .int .u64 pi, .int .u64 0, .int .u64 cd, .slice A4 l.length c4, .int .u64 0, .int .i64 0, .int .u64 0, .slice none 0 0, .slice none 0 0] 32 := D7.kn
    obtain ⟨k6, g6⟩ := set11 D7.k0 (.int .i64 4) (.int .i64 pn) (.int .u64 pi) (.int .u64 0) (.int .u64 cd) (.slice A4 l.length c4) (.int .u64 0) (.int .i64 0) (.int .u64 0) (.slice none 0 0) (.slice none 0 0)
    have HB6 := hide (D7.hB.trans (grown_to_below g6 (Nat.le_refl _) D7.hB.size))
    have q1 := own_grown D7.os g6 (by omega)
    have q2 := own_grown D7.om g6 (by omega)
    have q3 := own_grown D7.ou g6 (by omega)
    have HQ1 := hide q1
    have HQ2 := hide q2
    have HQ3 := hide q3
    clear D5 D7 T6 ok5 hb7 q1 q2 q3
    go_wp2
    generalize ((((((((((w7.setCell ⟨w.heap.size, 0, none⟩ (.int .i64 4)).setCell ⟨w.heap.size, 1, none⟩ (.int .i64 pn)).setCell ⟨w.heap.size, 2, none⟩ (.int .u64 pi)).setCell ⟨w.heap.size, 3, none⟩ (.int .u64 0)).setCell ⟨w.heap.size, 4, none⟩ (.int .u64 cd)).setCell ⟨w.heap.size, 5, none⟩ (.slice A4 l.length c4)).setCell ⟨w.heap.size, 6, none⟩ (.int .u64 0)).setCell ⟨w.heap.size, 7, none⟩ (.int .i64 0)).setCell ⟨w.heap.size, 8, none⟩ (.int .u64 0)).setCell ⟨w.heap.size, 9, none⟩ (.slice none 0 0)).setCell ⟨w.heap.size, 10, none⟩ (.slice none 0 0) = W6 at k6 HB6 HQ1 HQ2 HQ3 ⊢
    haveI := k6
    refine bodyPost_ret (v := .tuple #[.agg #[.int .i64 4, .int .i64 pn, .int .u64 pi, .int .u64 0, .int .u64 cd, .slice A4 l.length c4, .int .u64 0, .int .i64 0, .int .u64 0, .slice none 0 0, .slice none 0 0], .int .i64 0]) (by simp [results, Tryz.results21, go_sem]) rfl ?_
    rw [HF.out]
    exact ⟨_, _, _, _, _, _, rfl, ⟨Reads.of_own HQ1.out, HOK4.out.sl, ⟨Reads.of_own HQ2.out, Reads.of_own HQ3.out, HOK4.out.vk.ml, HOK4.out.vk.ul⟩⟩, HB6.out⟩
set_option maxRecDepth 100000 in
set_option maxHeartbeats 4000000 in
theorem dec2 (A : Option Addr) (c : Nat) (bs : List Int) (w : World) (hr : Reads w w.heap.size 1 A bs.length (bcs bs)) (hn : bs.length ≤ 1000000) (hok : bOK bs) (s s4 : RS) (pn pi : Int) (e1 : rGet s = ((pn, pi), s4)) (hu : rU8 (bs, false) = (2, s)) :
    Calls Tryz.prog 21 #[.slice A bs.length c] w (RetDec w (finN ⟨2, pn, pi, 0, 0, none, 0, [], vw0⟩ s4)) := by
  have T1 := hide (newReader_s A c bs _ ((Reads.below hr (below_alloc w (bxN 0 0 0 0 0 none 0 0 0 0 0 none 0 0 none 0 0))).more (by simp)) hn hok)
  have hl1 := rU8_len (bs, false)
  have hrg := rU8_range (s := (bs, false)) hok
  have T2 : Hid (∀ g B W, Rds W g B bs false → Calls Tryz.prog 49 #[.pointer (some ⟨g, 0, none⟩)] W (RetR g B W (.int .u8 2) s)) := hide (fun g B W h => by
    have := u8R_s g B (bs, false) W h
    rw [hu] at this; exact this)
  rw [hu] at hl1 hrg
  simp only at hl1 hrg
  clear hr hu
  go_enter Tryz.func21, Tryz.ntmps21
  go_wp2_with fail
  with_reducible refine T1.out.mono ?_
  rintro e w1 ⟨g, rfl, hg, hR1, hb1⟩
  have p0 := (boxTop w #[.int .i64 0, .int .i64 0, .int .u64 0, .int .u64 0, .int .u64 0, .slice none 0 0, .int .u64 0, .int .i64 0, .int .u64 0, .slice none 0 0, .slice none 0 0] 32).step hb1
  have hB1 := below_step (below_alloc w (bxN 0 0 0 0 0 none 0 0 0 0 0 none 0 0 none 0 0)) hb1
  simp only [World.size_alloc] at hg
  have hgt := hR1.top
  have hbA := below_alloc w1 (.cells #[.pointer (some ⟨g, 0, none⟩)] 80)
  have pm := boxTop w1 #[.pointer (some ⟨g, 0, none⟩)] 80
  haveI := pm
  have T3 := hide (T2.out g _ _ (hR1.step hbA))
  clear T1 T2 hb1
  go_wp2_with fail
  with_reducible refine T3.out.mono ?_
  rintro e w2 ⟨rfl, hR2, hG2⟩
  have hm2 := (pm.grown hG2 (by omega))
  have hlt2 := hm2.lt
  have D0 : DN w g w1.heap.size w1.heap.size w2.heap.size ⟨2, 0, 0, 0, 0, none, 0, [], vw0⟩ s (w2.alloc (bxN 2 0 0 0 0 none 0 0 0 0 0 none 0 0 none 0 0)) :=
    ⟨((p0.alloc' _).grown hG2 (by omega)).alloc' _, hm2.alloc' _, boxTop w2 _ _, hR2.step (below_alloc _ _), World.ownsRow_nil _ _ _ _, World.ownsRow_nil _ _ _ _, World.ownsRow_nil _ _ _ _,
      below_step ((below_step hB1 hbA).trans (grown_to_below hG2 (by omega) (by have := hB1.size; simp; omega))) (below_alloc _ _), by omega, hgt, Nat.le_refl _, hlt2, Nat.le_trans hl1 hn⟩
  have hB2 := hB1.size
  clear hR1 hR2 hG2 pm hm2 hbA hB1 p0 T3
  haveI := D0.km
  haveI : BoxAt (w2.alloc (bxN 2 0 0 0 0 none 0 0 0 0 0 none 0 0 none 0 0)) w2.heap.size #[.int .i64 2, .int .i64 0, .int .u64 0, .int .u64 0, .int .u64 0, .slice none 0 0, .int .u64 0, .int .i64 0, .int .u64 0, .slice none 0 0, .slice none 0 0] 32 := D0.kn
  have bp := boxTop (w2.alloc (bxN 2 0 0 0 0 none 0 0 0 0 0 none 0 0 none 0 0)) #[.func (.func 58) #[] #[.pointer (some ⟨w1.heap.size, 0, none⟩), .pointer (some ⟨w2.heap.size, 0, none⟩)]] 1
  have D0b := D0.below (below_alloc _ (.cells #[.func (.func 58) #[] #[.pointer (some ⟨w1.heap.size, 0, none⟩), .pointer (some ⟨w2.heap.size, 0, none⟩)]] 1))
  have T4 := hide (dRead2 w _ g _ _ _ _ _ _ D0b bp (by simp; omega) (by simp))
  simp only [World.size_alloc, e1] at T4
  clear D0 D0b bp
  go_wp2_with fail
  with_reducible refine T4.out.mono ?_
  rintro e w4 ⟨rfl, D4⟩
  clear T4
  haveI := D4.km
  obtain ⟨bs4, bad4⟩ := s4
  have T5 := hide (endR_s g _ (bs4, bad4) w4 D4.rd D4.hl)
  have hcs := D4.kn
  have hok4 : Nt.Ok w4 ⟨2, pn, pi, 0, 0, none, 0, [], vw0⟩ := ⟨Reads.of_own D4.os, by first | (show (0 : Nat) ≤ _; omega) | (show _ ≤ 1000000; simp only; omega), ⟨Reads.of_own D4.om, Reads.of_own D4.ou, by first | (show (0 : Nat) ≤ _; omega) | (show _ ≤ 1000000; simp only; omega), by first | (show (0 : Nat) ≤ _; omega) | (show _ ≤ 1000000; simp only; omega)⟩⟩
  have T6 := hide (fun W (h : Nt.Ok W ⟨2, pn, pi, 0, 0, none, 0, [], vw0⟩) => nmay_s ⟨2, pn, pi, 0, 0, none, 0, [], vw0⟩ W h)
  unfold Nt.v at T6
  simp only [List.length_nil] at T5 T6
  have key : (bad4 = true ∨ 0 < bs4.length) ∨ (¬ (bad4 = true ∨ 0 < bs4.length) ∧ Nt.mayB ⟨2, pn, pi, 0, 0, none, 0, [], vw0⟩ = false) ∨ (¬ (bad4 = true ∨ 0 < bs4.length) ∧ Nt.mayB ⟨2, pn, pi, 0, 0, none, 0, [], vw0⟩ = true) := by
    by_cases h : bad4 = true ∨ 0 < bs4.length
    · exact .inl h
    · cases h2 : Nt.mayB ⟨2, pn, pi, 0, 0, none, 0, [], vw0⟩
      · exact .inr (.inl ⟨h, rfl⟩)
      · exact .inr (.inr ⟨h, rfl⟩)
  have HOK4 := hide hok4
  clear hok4
  rcases key with hk1 | ⟨hk1, hk2⟩ | ⟨hk1, hk2⟩
  · rw [if_pos hk1] at T5
    have HF : Hid (finN ⟨2, pn, pi, 0, 0, none, 0, [], vw0⟩ (bs4, bad4) = none) := hide (show (if bad4 = true ∨ 0 < bs4.length then none else _) = none from if_pos hk1)
    clear hk1
    go_wp2_with fail
    with_reducible refine T5.out.mono ?_
    rintro e w5 ⟨rfl, hR5, hG5⟩
    have D5 := D4.read (s' := (bs4, bad4 || decide (0 < bs4.length))) hG5 hR5 (Nat.le_refl _)
    haveI := D5.k0
    obtain ⟨k6, g6⟩ := set11 D5.k0 (.int .i64 0) (.int .i64 0) (.int .u64 0) (.int .u64 0) (.int .u64 0) (.slice none 0 0) (.int .u64 0) (.int .i64 0) (.int .u64 0) (.slice none 0 0) (.slice none 0 0)
    have HB6 := hide (D5.hB.trans (grown_to_below g6 (Nat.le_refl _) D5.hB.size))
    clear D4 D5 hR5 hG5 T5 T6
    go_wp2
    generalize ((((((((((w5.setCell ⟨w.heap.size, 0, none⟩ (.int .i64 0)).setCell ⟨w.heap.size, 1, none⟩ (.int .i64 0)).setCell ⟨w.heap.size, 2, none⟩ (.int .u64 0)).setCell ⟨w.heap.size, 3, none⟩ (.int .u64 0)).setCell ⟨w.heap.size, 4, none⟩ (.int .u64 0)).setCell ⟨w.heap.size, 5, none⟩ (.slice none 0 0)).setCell ⟨w.heap.size, 6, none⟩ (.int .u64 0)).setCell ⟨w.heap.size, 7, none⟩ (.int .i64 0)).setCell ⟨w.heap.size, 8, none⟩ (.int .u64 0)).setCell ⟨w.heap.size, 9, none⟩ (.slice none 0 0)).setCell ⟨w.heap.size, 10, none⟩ (.slice none 0 0) = W6 at k6 HB6 ⊢
    haveI := k6
    refine bodyPost_ret (v := .tuple #[.agg #[.int .i64 0, .int .i64 0, .int .u64 0, .int .u64 0, .int .u64 0, .slice none 0 0, .int .u64 0, .int .i64 0, .int .u64 0, .slice none 0 0, .slice none 0 0], .int .i64 3]) (by simp [results, Tryz.results21, go_sem]) rfl ?_
    rw [HF.out]
    exact RetDec.no HB6.out
  · rw [if_neg hk1] at T5
    have HF : Hid (finN ⟨2, pn, pi, 0, 0, none, 0, [], vw0⟩ (bs4, bad4) = none) := hide ((if_neg hk1).trans (if_pos hk2))
    rw [hk2] at T6
    clear hk1 hk2
    go_wp2_with fail
    with_reducible refine T5.out.mono ?_
    rintro e w5 ⟨rfl, hR5, hG5⟩
    have D5 := D4.read (s' := (bs4, bad4 || decide (0 < bs4.length))) hG5 hR5 (Nat.le_refl _)
    haveI : BoxAt w5 w2.heap.size #[.int .i64 2, .int .i64 pn, .int .u64 pi, .int .u64 0, .int .u64 0, .slice none 0 0, .int .u64 0, .int .i64 0, .int .u64 0, .slice none 0 0, .slice none 0 0] 32 := D5.kn
    have ok5 : Nt.Ok w5 ⟨2, pn, pi, 0, 0, none, 0, [], vw0⟩ := ⟨Reads.of_own D5.os, HOK4.out.sl, ⟨Reads.of_own D5.om, Reads.of_own D5.ou, HOK4.out.vk.ml, HOK4.out.vk.ul⟩⟩
    clear D4 hR5 hG5 T5
    go_wp2_with fail
    (with_reducible refine (T6.out _ ok5).mono ?_)
    rintro e w7 ⟨rfl, hb7⟩
    have D7 := D5.below hb7
    haveI := D7.k0
    obtain ⟨k6, g6⟩ := set11 D7.k0 (.int .i64 0) (.int .i64 0) (.int .u64 0) (.int .u64 0) (.int .u64 0) (.slice none 0 0) (.int .u64 0) (.int .i64 0) (.int .u64 0) (.slice none 0 0) (.slice none 0 0)
    have HB6 := hide (D7.hB.trans (grown_to_below g6 (Nat.le_refl _) D7.hB.size))
    clear D5 D7 T6 ok5 hb7
    go_wp2
    generalize ((((((((((w7.setCell ⟨w.heap.size, 0, none⟩ (.int .i64 0)).setCell ⟨w.heap.size, 1, none⟩ (.int .i64 0)).setCell ⟨w.heap.size, 2, none⟩ (.int .u64 0)).setCell ⟨w.heap.size, 3, none⟩ (.int .u64 0)).setCell ⟨w.heap.size, 4, none⟩ (.int .u64 0)).setCell ⟨w.heap.size, 5, none⟩ (.slice none 0 0)).setCell ⟨w.heap.size, 6, none⟩ (.int .u64 0)).setCell ⟨w.heap.size, 7, none⟩ (.int .i64 0)).setCell ⟨w.heap.size, 8, none⟩ (.int .u64 0)).setCell ⟨w.heap.size, 9, none⟩ (.slice none 0 0)).setCell ⟨w.heap.size, 10, none⟩ (.slice none 0 0) = W6 at k6 HB6 ⊢
    haveI := k6
    refine bodyPost_ret (v := .tuple #[.agg #[.int .i64 0, .int .i64 0, .int .u64 0, .int .u64 0, .int .u64 0, .slice none 0 0, .int .u64 0, .int .i64 0, .int .u64 0, .slice none 0 0, .slice none 0 0], .int .i64 3]) (by simp [results, Tryz.results21, go_sem]) rfl ?_
    rw [HF.out]
    exact RetDec.no HB6.out
  · rw [if_neg hk1] at T5
    have HF : Hid (finN ⟨2, pn, pi, 0, 0, none, 0, [], vw0⟩ (bs4, bad4) = some ⟨2, pn, pi, 0, 0, none, 0, [], vw0⟩) := hide ((if_neg hk1).trans (if_neg (by intro h; have h' : Nt.mayB ⟨2, pn, pi, 0, 0, none, 0, [], vw0⟩ = false := h; rw [hk2] at h'; cases h')))
    rw [hk2] at T6
    clear hk1 hk2
    go_wp2_with fail
    with_reducible refine T5.out.mono ?_
    rintro e w5 ⟨rfl, hR5, hG5⟩
    have D5 := D4.read (s' := (bs4, bad4 || decide (0 < bs4.length))) hG5 hR5 (Nat.le_refl _)
    haveI : BoxAt w5 w2.heap.size #[.int .i64 2, .int .i64 pn, .int .u64 pi, .int .u64 0, .int .u64 0, .slice none 0 0, .int .u64 0, .int .i64 0, .int .u64 0, .slice none 0 0, .slice none 0 0] 32 := D5.kn
    have ok5 : Nt.Ok w5 ⟨2, pn, pi, 0, 0, none, 0, [], vw0⟩ := ⟨Reads.of_own D5.os, HOK4.out.sl, ⟨Reads.of_own D5.om, Reads.of_own D5.ou, HOK4.out.vk.ml, HOK4.out.vk.ul⟩⟩
    clear D4 hR5 hG5 T5
    go_wp2_with fail
    (with_reducible refine (T6.out _ ok5).mono ?_)
    rintro e w7 ⟨rfl, hb7⟩
    have D7 := D5.below hb7
    haveI := D7.k0
    haveI : BoxAt w7 w2.heap.size #[.int .i64 2, .int .i64 pn, .int .u64 pi, .int .u64 0, .int .u64 0, .slice none 0 0, .int .u64 0, .int .i64 0, .int .u64 0, .slice none 0 0, .slice none 0 0] 32 := D7.kn
    obtain ⟨k6, g6⟩ := set11 D7.k0 (.int .i64 2) (.int .i64 pn) (.int .u64 pi) (.int .u64 0) (.int .u64 0) (.slice none 0 0) (.int .u64 0) (.int .i64 0) (.int .u64 0) (.slice none 0 0) (.slice none 0 0)
    have HB6 := hide (D7.hB.trans (grown_to_below g6 (Nat.le_refl _) D7.hB.size))
    have q1 := own_grown D7.os g6 (by omega)
    have q2 := own_grown D7.om g6 (by omega)
    have q3 := own_grown D7.ou g6 (by omega)
    have HQ1 := hide q1
    have HQ2 := hide q2
    have HQ3 := hide q3
    clear D5 D7 T6 ok5 hb7 q1 q2 q3
    go_wp2
    generalize ((((((((((w7.setCell ⟨w.heap.size, 0, none⟩ (.int .i64 2)).setCell ⟨w.heap.size, 1, none⟩ (.int .i64 pn)).setCell ⟨w.heap.size, 2, none⟩ (.int .u64 pi)).setCell ⟨w.heap.size, 3, none⟩ (.int .u64 0)).setCell ⟨w.heap.size, 4, none⟩ (.int .u64 0)).setCell ⟨w.heap.size, 5, none⟩ (.slice none 0 0)).setCell ⟨w.heap.size, 6, none⟩ (.int .u64 0)).setCell ⟨w.heap.size, 7, none⟩ (.int .i64 0)).setCell ⟨w.heap.size, 8, none⟩ (.int .u64 0)).setCell ⟨w.heap.size, 9, none⟩ (.slice none 0 0)).setCell ⟨w.heap.size, 10, none⟩ (.slice none 0 0) = W6 at k6 HB6 HQ1 HQ2 HQ3 ⊢
    haveI := k6
    refine bodyPost_ret (v := .tuple #[.agg #[.int .i64 2, .int .i64 pn, .int .u64 pi, .int .u64 0, .int .u64 0, .slice none 0 0, .int .u64 0, .int .i64 0, .int .u64 0, .slice none 0 0, .slice none 0 0], .int .i64 0]) (by simp [results, Tryz.results21, go_sem]) rfl ?_
    rw [HF.out]
    exact ⟨_, _, _, _, _, _, rfl, ⟨Reads.of_own HQ1.out, HOK4.out.sl, ⟨Reads.of_own HQ2.out, Reads.of_own HQ3.out, HOK4.out.vk.ml, HOK4.out.vk.ul⟩⟩, HB6.out⟩
set_option maxRecDepth 100000 in
set_option maxHeartbeats 4000000 in
theorem dec5 (A : Option Addr) (c : Nat) (bs : List Int) (w : World) (hr : Reads w w.heap.size 1 A bs.length (bcs bs)) (hn : bs.length ≤ 1000000) (hok : bOK bs) (s s4 : RS) (r vn vi : Int) (ms : List Pr) (us : List Int) (e1 : rView s = (((r, vn, vi), ms, us), s4)) (hml : ms.length ≤ 1000000) (hul : us.length ≤ 1000000) (hu : rU8 (bs, false) = (5, s)) :
    Calls Tryz.prog 21 #[.slice A bs.length c] w (RetDec w (finN ⟨5, 0, 0, 0, 0, none, 0, [], ⟨r, vn, vi, none, 0, ms, none, 0, us⟩⟩ s4)) := by
  have T1 := hide (newReader_s A c bs _ ((Reads.below hr (below_alloc w (bxN 0 0 0 0 0 none 0 0 0 0 0 none 0 0 none 0 0))).more (by simp)) hn hok)
  have hl1 := rU8_len (bs, false)
  have hrg := rU8_range (s := (bs, false)) hok
  have T2 : Hid (∀ g B W, Rds W g B bs false → Calls Tryz.prog 49 #[.pointer (some ⟨g, 0, none⟩)] W (RetR g B W (.int .u8 5) s)) := hide (fun g B W h => by
    have := u8R_s g B (bs, false) W h
    rw [hu] at this; exact this)
  rw [hu] at hl1 hrg
  simp only at hl1 hrg
  clear hr hu
  go_enter Tryz.func21, Tryz.ntmps21
  go_wp2_with fail
  with_reducible refine T1.out.mono ?_
  rintro e w1 ⟨g, rfl, hg, hR1, hb1⟩
  have p0 := (boxTop w #[.int .i64 0, .int .i64 0, .int .u64 0, .int .u64 0, .int .u64 0, .slice none 0 0, .int .u64 0, .int .i64 0, .int .u64 0, .slice none 0 0, .slice none 0 0] 32).step hb1
  have hB1 := below_step (below_alloc w (bxN 0 0 0 0 0 none 0 0 0 0 0 none 0 0 none 0 0)) hb1
  simp only [World.size_alloc] at hg
  have hgt := hR1.top
  have hbA := below_alloc w1 (.cells #[.pointer (some ⟨g, 0, none⟩)] 80)
  have pm := boxTop w1 #[.pointer (some ⟨g, 0, none⟩)] 80
  haveI := pm
  have T3 := hide (T2.out g _ _ (hR1.step hbA))
  clear T1 T2 hb1
  go_wp2_with fail
  with_reducible refine T3.out.mono ?_
  rintro e w2 ⟨rfl, hR2, hG2⟩
  have hm2 := (pm.grown hG2 (by omega))
  have hlt2 := hm2.lt
  have D0 : DN w g w1.heap.size w1.heap.size w2.heap.size ⟨5, 0, 0, 0, 0, none, 0, [], vw0⟩ s (w2.alloc (bxN 5 0 0 0 0 none 0 0 0 0 0 none 0 0 none 0 0)) :=
    ⟨((p0.alloc' _).grown hG2 (by omega)).alloc' _, hm2.alloc' _, boxTop w2 _ _, hR2.step (below_alloc _ _), World.ownsRow_nil _ _ _ _, World.ownsRow_nil _ _ _ _, World.ownsRow_nil _ _ _ _,
      below_step ((below_step hB1 hbA).trans (grown_to_below hG2 (by omega) (by have := hB1.size; simp; omega))) (below_alloc _ _), by omega, hgt, Nat.le_refl _, hlt2, Nat.le_trans hl1 hn⟩
  have hB2 := hB1.size
  clear hR1 hR2 hG2 pm hm2 hbA hB1 p0 T3
  haveI := D0.km
  haveI : BoxAt (w2.alloc (bxN 5 0 0 0 0 none 0 0 0 0 0 none 0 0 none 0 0)) w2.heap.size #[.int .i64 5, .int .i64 0, .int .u64 0, .int .u64 0, .int .u64 0, .slice none 0 0, .int .u64 0, .int .i64 0, .int .u64 0, .slice none 0 0, .slice none 0 0] 32 := D0.kn
  have bp := boxTop (w2.alloc (bxN 5 0 0 0 0 none 0 0 0 0 0 none 0 0 none 0 0)) #[.func (.func 62) #[] #[.pointer (some ⟨w1.heap.size, 0, none⟩), .pointer (some ⟨w2.heap.size, 0, none⟩)]] 1
  have D0b := D0.below (below_alloc _ (.cells #[.func (.func 62) #[] #[.pointer (some ⟨w1.heap.size, 0, none⟩), .pointer (some ⟨w2.heap.size, 0, none⟩)]] 1))
  have T4 := hide (dRead5 w _ g _ _ _ _ _ _ D0b bp (by simp; omega) (by simp))
  simp only [World.size_alloc, e1] at T4
  clear D0 D0b bp
  go_wp2_with fail
  with_reducible refine T4.out.mono ?_
  rintro e w4 ⟨rfl, A1, c1, A2, c2, D4⟩
  clear T4
  haveI := D4.km
  obtain ⟨bs4, bad4⟩ := s4
  have T5 := hide (endR_s g _ (bs4, bad4) w4 D4.rd D4.hl)
  have hcs := D4.kn
  have hok4 : Nt.Ok w4 ⟨5, 0, 0, 0, 0, none, 0, [], ⟨r, vn, vi, A1, c1, ms, A2, c2, us⟩⟩ := ⟨Reads.of_own D4.os, by first | (show (0 : Nat) ≤ _; omega) | (show _ ≤ 1000000; simp only; omega), ⟨Reads.of_own D4.om, Reads.of_own D4.ou, by first | (show (0 : Nat) ≤ _; omega) | (show _ ≤ 1000000; simp only; omega), by first | (show (0 : Nat) ≤ _; omega) | (show _ ≤ 1000000; simp only; omega)⟩⟩
  have T6 := hide (fun W (h : Nt.Ok W ⟨5, 0, 0, 0, 0, none, 0, [], ⟨r, vn, vi, A1, c1, ms, A2, c2, us⟩⟩) => nmay_s ⟨5, 0, 0, 0, 0, none, 0, [], ⟨r, vn, vi, A1, c1, ms, A2, c2, us⟩⟩ W h)
  unfold Nt.v at T6
  simp only [List.length_nil] at T5 T6
  have key : (bad4 = true ∨ 0 < bs4.length) ∨ (¬ (bad4 = true ∨ 0 < bs4.length) ∧ Nt.mayB ⟨5, 0, 0, 0, 0, none, 0, [], ⟨r, vn, vi, A1, c1, ms, A2, c2, us⟩⟩ = false) ∨ (¬ (bad4 = true ∨ 0 < bs4.length) ∧ Nt.mayB ⟨5, 0, 0, 0, 0, none, 0, [], ⟨r, vn, vi, A1, c1, ms, A2, c2, us⟩⟩ = true) := by
    by_cases h : bad4 = true ∨ 0 < bs4.length
    · exact .inl h
    · cases h2 : Nt.mayB ⟨5, 0, 0, 0, 0, none, 0, [], ⟨r, vn, vi, A1, c1, ms, A2, c2, us⟩⟩
      · exact .inr (.inl ⟨h, rfl⟩)
      · exact .inr (.inr ⟨h, rfl⟩)
  have HOK4 := hide hok4
  clear hok4
  rcases key with hk1 | ⟨hk1, hk2⟩ | ⟨hk1, hk2⟩
  · rw [if_pos hk1] at T5
    have HF : Hid (finN ⟨5, 0, 0, 0, 0, none, 0, [], ⟨r, vn, vi, none, 0, ms, none, 0, us⟩⟩ (bs4, bad4) = none) := hide (show (if bad4 = true ∨ 0 < bs4.length then none else _) = none from if_pos hk1)
    clear hk1
    go_wp2_with fail
    with_reducible refine T5.out.mono ?_
    rintro e w5 ⟨rfl, hR5, hG5⟩
    have D5 := D4.read (s' := (bs4, bad4 || decide (0 < bs4.length))) hG5 hR5 (Nat.le_refl _)
    haveI := D5.k0
    obtain ⟨k6, g6⟩ := set11 D5.k0 (.int .i64 0) (.int .i64 0) (.int .u64 0) (.int .u64 0) (.int .u64 0) (.slice none 0 0) (.int .u64 0) (.int .i64 0) (.int .u64 0) (.slice none 0 0) (.slice none 0 0)
    have HB6 := hide (D5.hB.trans (grown_to_below g6 (Nat.le_refl _) D5.hB.size))
    clear D4 D5 hR5 hG5 T5 T6
    go_wp2
    generalize ((((((((((w5.setCell ⟨w.heap.size, 0, none⟩ (.int .i64 0)).setCell ⟨w.heap.size, 1, none⟩ (.int .i64 0)).setCell ⟨w.heap.size, 2, none⟩ (.int .u64 0)).setCell ⟨w.heap.size, 3, none⟩ (.int .u64 0)).setCell ⟨w.heap.size, 4, none⟩ (.int .u64 0)).setCell ⟨w.heap.size, 5, none⟩ (.slice none 0 0)).setCell ⟨w.heap.size, 6, none⟩ (.int .u64 0)).setCell ⟨w.heap.size, 7, none⟩ (.int .i64 0)).setCell ⟨w.heap.size, 8, none⟩ (.int .u64 0)).setCell ⟨w.heap.size, 9, none⟩ (.slice none 0 0)).setCell ⟨w.heap.size, 10, none⟩ (.slice none 0 0) = W6 at k6 HB6 ⊢
    haveI := k6
    refine bodyPost_ret (v := .tuple #[.agg #[.int .i64 0, .int .i64 0, .int .u64 0, .int .u64 0, .int .u64 0, .slice none 0 0, .int .u64 0, .int .i64 0, .int .u64 0, .slice none 0 0, .slice none 0 0], .int .i64 3]) (by simp [results, Tryz.results21, go_sem]) rfl ?_
    rw [HF.out]
    exact RetDec.no HB6.out
  · rw [if_neg hk1] at T5
    have HF : Hid (finN ⟨5, 0, 0, 0, 0, none, 0, [], ⟨r, vn, vi, none, 0, ms, none, 0, us⟩⟩ (bs4, bad4) = none) := hide ((if_neg hk1).trans (if_pos hk2))
    rw [hk2] at T6
    clear hk1 hk2
    go_wp2_with fail
    with_reducible refine T5.out.mono ?_
    rintro e w5 ⟨rfl, hR5, hG5⟩
    have D5 := D4.read (s' := (bs4, bad4 || decide (0 < bs4.length))) hG5 hR5 (Nat.le_refl _)
    haveI : BoxAt w5 w2.heap.size #[.int .i64 5, .int .i64 0, .int .u64 0, .int .u64 0, .int .u64 0, .slice none 0 0, .int .u64 r, .int .i64 vn, .int .u64 vi, .slice A1 ms.length c1, .slice A2 us.length c2] 32 := D5.kn
    have ok5 : Nt.Ok w5 ⟨5, 0, 0, 0, 0, none, 0, [], ⟨r, vn, vi, A1, c1, ms, A2, c2, us⟩⟩ := ⟨Reads.of_own D5.os, HOK4.out.sl, ⟨Reads.of_own D5.om, Reads.of_own D5.ou, HOK4.out.vk.ml, HOK4.out.vk.ul⟩⟩
    clear D4 hR5 hG5 T5
    go_wp2_with fail
    (with_reducible refine (T6.out _ ok5).mono ?_)
    rintro e w7 ⟨rfl, hb7⟩
    have D7 := D5.below hb7
    haveI := D7.k0
    obtain ⟨k6, g6⟩ := set11 D7.k0 (.int .i64 0) (.int .i64 0) (.int .u64 0) (.int .u64 0) (.int .u64 0) (.slice none 0 0) (.int .u64 0) (.int .i64 0) (.int .u64 0) (.slice none 0 0) (.slice none 0 0)
    have HB6 := hide (D7.hB.trans (grown_to_below g6 (Nat.le_refl _) D7.hB.size))
    clear D5 D7 T6 ok5 hb7
    go_wp2
    generalize ((((((((((w7.setCell ⟨w.heap.size, 0, none⟩ (.int .i64 0)).setCell ⟨w.heap.size, 1, none⟩ (.int .i64 0)).setCell ⟨w.heap.size, 2, none⟩ (.int .u64 0)).setCell ⟨w.heap.size, 3, none⟩ (.int .u64 0)).setCell ⟨w.heap.size, 4, none⟩ (.int .u64 0)).setCell ⟨w.heap.size, 5, none⟩ (.slice none 0 0)).setCell ⟨w.heap.size, 6, none⟩ (.int .u64 0)).setCell ⟨w.heap.size, 7, none⟩ (.int .i64 0)).setCell ⟨w.heap.size, 8, none⟩ (.int .u64 0)).setCell ⟨w.heap.size, 9, none⟩ (.slice none 0 0)).setCell ⟨w.heap.size, 10, none⟩ (.slice none 0 0) = W6 at k6 HB6 ⊢
    haveI := k6
    refine bodyPost_ret (v := .tuple #[.agg #[.int .i64 0, .int .i64 0, .int .u64 0, .int .u64 0, .int .u64 0, .slice none 0 0, .int .u64 0, .int .i64 0, .int .u64 0, .slice none 0 0, .slice none 0 0], .int .i64 3]) (by simp [results, Tryz.results21, go_sem]) rfl ?_
    rw [HF.out]
    exact RetDec.no HB6.out
  · rw [if_neg hk1] at T5
    have HF : Hid (finN ⟨5, 0, 0, 0, 0, none, 0, [], ⟨r, vn, vi, none, 0, ms, none, 0, us⟩⟩ (bs4, bad4) = some ⟨5, 0, 0, 0, 0, none, 0, [], ⟨r, vn, vi, none, 0, ms, none, 0, us⟩⟩) := hide ((if_neg hk1).trans (if_neg (by intro h; have h' : Nt.mayB ⟨5, 0, 0, 0, 0, none, 0, [], ⟨r, vn, vi, A1, c1, ms, A2, c2, us⟩⟩ = false := h; rw [hk2] at h'; cases h')))
    rw [hk2] at T6
    clear hk1 hk2
    go_wp2_with fail
    with_reducible refine T5.out.mono ?_
    rintro e w5 ⟨rfl, hR5, hG5⟩
    have D5 := D4.read (s' := (bs4, bad4 || decide (0 < bs4.length))) hG5 hR5 (Nat.le_refl _)
    haveI : BoxAt w5 w2.heap.size #[.int .i64 5, .int .i64 0, .int .u64 0, .int .u64 0, .int .u64 0, .slice none 0 0, .int .u64 r, .int .i64 vn, .int .u64 vi, .slice A1 ms.length c1, .slice A2 us.length c2] 32 := D5.kn
    have ok5 : Nt.Ok w5 ⟨5, 0, 0, 0, 0, none, 0, [], ⟨r, vn, vi, A1, c1, ms, A2, c2, us⟩⟩ := ⟨Reads.of_own D5.os, HOK4.out.sl, ⟨Reads.of_own D5.om, Reads.of_own D5.ou, HOK4.out.vk.ml, HOK4.out.vk.ul⟩⟩
    clear D4 hR5 hG5 T5
    go_wp2_with fail
    (with_reducible refine (T6.out _ ok5).mono ?_)
    rintro e w7 ⟨rfl, hb7⟩
    have D7 := D5.below hb7
    haveI := D7.k0
    haveI : BoxAt w7 w2.heap.size #[.int .i64 5, .int .i64 0, .int .u64 0, .int .u64 0, .int .u64 0, .slice none 0 0, .int .u64 r, .int .i64 vn, .int .u64 vi, .slice A1 ms.length c1, .slice A2 us.length c2] 32 := D7.kn
    obtain ⟨k6, g6⟩ := set11 D7.k0 (.int .i64 5) (.int .i64 0) (.int .u64 0) (.int .u64 0) (.int .u64 0) (.slice none 0 0) (.int .u64 r) (.int .i64 vn) (.int .u64 vi) (.slice A1 ms.length c1) (.slice A2 us.length c2)
    have HB6 := hide (D7.hB.trans (grown_to_below g6 (Nat.le_refl _) D7.hB.size))
    have q1 := own_grown D7.os g6 (by omega)
    have q2 := own_grown D7.om g6 (by omega)
    have q3 := own_grown D7.ou g6 (by omega)
    have HQ1 := hide q1
    have HQ2 := hide q2
    have HQ3 := hide q3
    clear D5 D7 T6 ok5 hb7 q1 q2 q3
    go_wp2
    generalize ((((((((((w7.setCell ⟨w.heap.size, 0, none⟩ (.int .i64 5)).setCell ⟨w.heap.size, 1, none⟩ (.int .i64 0)).setCell ⟨w.heap.size, 2, none⟩ (.int .u64 0)).setCell ⟨w.heap.size, 3, none⟩ (.int .u64 0)).setCell ⟨w.heap.size, 4, none⟩ (.int .u64 0)).setCell ⟨w.heap.size, 5, none⟩ (.slice none 0 0)).setCell ⟨w.heap.size, 6, none⟩ (.int .u64 r)).setCell ⟨w.heap.size, 7, none⟩ (.int .i64 vn)).setCell ⟨w.heap.size, 8, none⟩ (.int .u64 vi)).setCell ⟨w.heap.size, 9, none⟩ (.slice A1 ms.length c1)).setCell ⟨w.heap.size, 10, none⟩ (.slice A2 us.length c2) = W6 at k6 HB6 HQ1 HQ2 HQ3 ⊢
    haveI := k6
    refine bodyPost_ret (v := .tuple #[.agg #[.int .i64 5, .int .i64 0, .int .u64 0, .int .u64 0, .int .u64 0, .slice none 0 0, .int .u64 r, .int .i64 vn, .int .u64 vi, .slice A1 ms.length c1, .slice A2 us.length c2], .int .i64 0]) (by simp [results, Tryz.results21, go_sem]) rfl ?_
    rw [HF.out]
    exact ⟨_, _, _, _, _, _, rfl, ⟨Reads.of_own HQ1.out, HOK4.out.sl, ⟨Reads.of_own HQ2.out, Reads.of_own HQ3.out, HOK4.out.vk.ml, HOK4.out.vk.ul⟩⟩, HB6.out⟩
end Go.Proofs.YtdmjopokclljlaaGreat

namespace Go.Proofs.YtdmjopokclljlaaGreat
set_option linter.unusedSimpArgs false
set_option linter.unusedVariables false
set_option linter.unusedSectionVars false
open Go.RowKit

set_option maxRecDepth 100000 in
set_option maxHeartbeats 4000000 in
theorem dec_else (A : Option Addr) (c : Nat) (bs : List Int) (w : World) (hr : Reads w w.heap.size 1 A bs.length (bcs bs)) (hn : bs.length ≤ 1000000) (hok : bOK bs) (k : Int) (s : RS) (hk : k ≠ 5 ∧ k ≠ 1 ∧ k ≠ 3 ∧ k ≠ 2 ∧ k ≠ 4) (hu : rU8 (bs, false) = (k, s)) :
    Calls Tryz.prog 21 #[.slice A bs.length c] w (RetDec w (finN ⟨k, 0, 0, 0, 0, none, 0, [], vw0⟩ s)) := by
  have T1 := hide (newReader_s A c bs _ ((Reads.below hr (below_alloc w (bxN 0 0 0 0 0 none 0 0 0 0 0 none 0 0 none 0 0))).more (by simp)) hn hok)
  have hl1 := rU8_len (bs, false)
  have hrg := rU8_range (s := (bs, false)) hok
  have T2 : Hid (∀ g B W, Rds W g B bs false → Calls Tryz.prog 49 #[.pointer (some ⟨g, 0, none⟩)] W (RetR g B W (.int .u8 k) s)) := hide (fun g B W h => by
    have := u8R_s g B (bs, false) W h
    rw [hu] at this; exact this)
  rw [hu] at hl1 hrg
  simp only at hl1 hrg
  obtain ⟨hrg0, hrg1⟩ := hrg
  clear hr hu
  go_enter Tryz.func21, Tryz.ntmps21
  go_wp2_with fail
  with_reducible refine T1.out.mono ?_
  rintro e w1 ⟨g, rfl, hg, hR1, hb1⟩
  have p0 := (boxTop w #[.int .i64 0, .int .i64 0, .int .u64 0, .int .u64 0, .int .u64 0, .slice none 0 0, .int .u64 0, .int .i64 0, .int .u64 0, .slice none 0 0, .slice none 0 0] 32).step hb1
  have hB1 := below_step (below_alloc w (bxN 0 0 0 0 0 none 0 0 0 0 0 none 0 0 none 0 0)) hb1
  simp only [World.size_alloc] at hg
  have hgt := hR1.top
  have hbA := below_alloc w1 (.cells #[.pointer (some ⟨g, 0, none⟩)] 80)
  have pm := boxTop w1 #[.pointer (some ⟨g, 0, none⟩)] 80
  haveI := pm
  have T3 := hide (T2.out g _ _ (hR1.step hbA))
  clear T1 T2 hb1
  go_wp2_with fail
  with_reducible refine T3.out.mono ?_
  rintro e w2 ⟨rfl, hR2, hG2⟩
  have hm2 := (pm.grown hG2 (by omega))
  have hlt2 := hm2.lt
  have D0 : DN w g w1.heap.size w1.heap.size w2.heap.size ⟨k, 0, 0, 0, 0, none, 0, [], vw0⟩ s (w2.alloc (bxN k 0 0 0 0 none 0 0 0 0 0 none 0 0 none 0 0)) :=
    ⟨((p0.alloc' _).grown hG2 (by omega)).alloc' _, hm2.alloc' _, boxTop w2 _ _, hR2.step (below_alloc _ _), World.ownsRow_nil _ _ _ _, World.ownsRow_nil _ _ _ _, World.ownsRow_nil _ _ _ _,
      below_step ((below_step hB1 hbA).trans (grown_to_below hG2 (by omega) (by have := hB1.size; simp; omega))) (below_alloc _ _), by omega, hgt, Nat.le_refl _, hlt2, Nat.le_trans hl1 hn⟩
  have hB2 := hB1.size
  clear hR1 hR2 hG2 pm hm2 hbA hB1 p0 T3
  haveI := D0.km
  haveI : BoxAt (w2.alloc (bxN k 0 0 0 0 none 0 0 0 0 0 none 0 0 none 0 0)) w2.heap.size #[.int .i64 k, .int .i64 0, .int .u64 0, .int .u64 0, .int .u64 0, .slice none 0 0, .int .u64 0, .int .i64 0, .int .u64 0, .slice none 0 0, .slice none 0 0] 32 := D0.kn
  have D4 := D0
  clear D0
  obtain ⟨a5, a1, a3, a2, a4⟩ := hk
  have k5' : (k == 5) = false := by simpa using a5
  have k1 : (k == 1) = false := by simpa using a1
  have k2 : (k == 2) = false := by simpa using a2
  have k3 : (k == 3) = false := by simpa using a3
  have k4 : (k == 4) = false := by simpa using a4
  clear a5 a1 a3 a2 a4
  haveI := D4.km
  obtain ⟨bs4, bad4⟩ := s
  have T5 := hide (endR_s g _ (bs4, bad4) (w2.alloc (bxN k 0 0 0 0 none 0 0 0 0 0 none 0 0 none 0 0)) D4.rd D4.hl)
  have hcs := D4.kn
  have hok4 : Nt.Ok (w2.alloc (bxN k 0 0 0 0 none 0 0 0 0 0 none 0 0 none 0 0)) ⟨k, 0, 0, 0, 0, none, 0, [], vw0⟩ := ⟨Reads.of_own D4.os, by first | (show (0 : Nat) ≤ _; omega) | (show _ ≤ 1000000; simp only; omega), ⟨Reads.of_own D4.om, Reads.of_own D4.ou, by first | (show (0 : Nat) ≤ _; omega) | (show _ ≤ 1000000; simp only; omega), by first | (show (0 : Nat) ≤ _; omega) | (show _ ≤ 1000000; simp only; omega)⟩⟩
  have T6 := hide (fun W (h : Nt.Ok W ⟨k, 0, 0, 0, 0, none, 0, [], vw0⟩) => nmay_s ⟨k, 0, 0, 0, 0, none, 0, [], vw0⟩ W h)
  unfold Nt.v at T6
  simp only [List.length_nil] at T5 T6
  have key : (bad4 = true ∨ 0 < bs4.length) ∨ (¬ (bad4 = true ∨ 0 < bs4.length) ∧ Nt.mayB ⟨k, 0, 0, 0, 0, none, 0, [], vw0⟩ = false) ∨ (¬ (bad4 = true ∨ 0 < bs4.length) ∧ Nt.mayB ⟨k, 0, 0, 0, 0, none, 0, [], vw0⟩ = true) := by
    by_cases h : bad4 = true ∨ 0 < bs4.length
    · exact .inl h
    · cases h2 : Nt.mayB ⟨k, 0, 0, 0, 0, none, 0, [], vw0⟩
      · exact .inr (.inl ⟨h, rfl⟩)
      · exact .inr (.inr ⟨h, rfl⟩)
  have HOK4 := hide hok4
  clear hok4
  rcases key with hk1 | ⟨hk1, hk2⟩ | ⟨hk1, hk2⟩
  · rw [if_pos hk1] at T5
    have HF : Hid (finN ⟨k, 0, 0, 0, 0, none, 0, [], vw0⟩ (bs4, bad4) = none) := hide (show (if bad4 = true ∨ 0 < bs4.length then none else _) = none from if_pos hk1)
    clear hk1
    go_wp2_with fail
    with_reducible refine T5.out.mono ?_
    rintro e w5 ⟨rfl, hR5, hG5⟩
    have D5 := D4.read (s' := (bs4, bad4 || decide (0 < bs4.length))) hG5 hR5 (Nat.le_refl _)
    haveI := D5.k0
    obtain ⟨k6, g6⟩ := set11 D5.k0 (.int .i64 0) (.int .i64 0) (.int .u64 0) (.int .u64 0) (.int .u64 0) (.slice none 0 0) (.int .u64 0) (.int .i64 0) (.int .u64 0) (.slice none 0 0) (.slice none 0 0)
    have HB6 := hide (D5.hB.trans (grown_to_below g6 (Nat.le_refl _) D5.hB.size))
    clear D4 D5 hR5 hG5 T5 T6
    go_wp2
    generalize ((((((((((w5.setCell ⟨w.heap.size, 0, none⟩ (.int .i64 0)).setCell ⟨w.heap.size, 1, none⟩ (.int .i64 0)).setCell ⟨w.heap.size, 2, none⟩ (.int .u64 0)).setCell ⟨w.heap.size, 3, none⟩ (.int .u64 0)).setCell ⟨w.heap.size, 4, none⟩ (.int .u64 0)).setCell ⟨w.heap.size, 5, none⟩ (.slice none 0 0)).setCell ⟨w.heap.size, 6, none⟩ (.int .u64 0)).setCell ⟨w.heap.size, 7, none⟩ (.int .i64 0)).setCell ⟨w.heap.size, 8, none⟩ (.int .u64 0)).setCell ⟨w.heap.size, 9, none⟩ (.slice none 0 0)).setCell ⟨w.heap.size, 10, none⟩ (.slice none 0 0) = W6 at k6 HB6 ⊢
    haveI := k6
    refine bodyPost_ret (v := .tuple #[.agg #[.int .i64 0, .int .i64 0, .int .u64 0, .int .u64 0, .int .u64 0, .slice none 0 0, .int .u64 0, .int .i64 0, .int .u64 0, .slice none 0 0, .slice none 0 0], .int .i64 3]) (by simp [results, Tryz.results21, go_sem]) rfl ?_
    rw [HF.out]
    exact RetDec.no HB6.out
  · rw [if_neg hk1] at T5
    have HF : Hid (finN ⟨k, 0, 0, 0, 0, none, 0, [], vw0⟩ (bs4, bad4) = none) := hide ((if_neg hk1).trans (if_pos hk2))
    rw [hk2] at T6
    clear hk1 hk2
    go_wp2_with fail
    with_reducible refine T5.out.mono ?_
    rintro e w5 ⟨rfl, hR5, hG5⟩
    have D5 := D4.read (s' := (bs4, bad4 || decide (0 < bs4.length))) hG5 hR5 (Nat.le_refl _)
    haveI : BoxAt w5 w2.heap.size #[.int .i64 k, .int .i64 0, .int .u64 0, .int .u64 0, .int .u64 0, .slice none 0 0, .int .u64 0, .int .i64 0, .int .u64 0, .slice none 0 0, .slice none 0 0] 32 := D5.kn
    have ok5 : Nt.Ok w5 ⟨k, 0, 0, 0, 0, none, 0, [], vw0⟩ := ⟨Reads.of_own D5.os, HOK4.out.sl, ⟨Reads.of_own D5.om, Reads.of_own D5.ou, HOK4.out.vk.ml, HOK4.out.vk.ul⟩⟩
    clear D4 hR5 hG5 T5
    go_wp2_with fail
    (with_reducible refine (T6.out _ ok5).mono ?_)
    rintro e w7 ⟨rfl, hb7⟩
    have D7 := D5.below hb7
    haveI := D7.k0
    obtain ⟨k6, g6⟩ := set11 D7.k0 (.int .i64 0) (.int .i64 0) (.int .u64 0) (.int .u64 0) (.int .u64 0) (.slice none 0 0) (.int .u64 0) (.int .i64 0) (.int .u64 0) (.slice none 0 0) (.slice none 0 0)
    have HB6 := hide (D7.hB.trans (grown_to_below g6 (Nat.le_refl _) D7.hB.size))
    clear D5 D7 T6 ok5 hb7
    go_wp2
    generalize ((((((((((w7.setCell ⟨w.heap.size, 0, none⟩ (.int .i64 0)).setCell ⟨w.heap.size, 1, none⟩ (.int .i64 0)).setCell ⟨w.heap.size, 2, none⟩ (.int .u64 0)).setCell ⟨w.heap.size, 3, none⟩ (.int .u64 0)).setCell ⟨w.heap.size, 4, none⟩ (.int .u64 0)).setCell ⟨w.heap.size, 5, none⟩ (.slice none 0 0)).setCell ⟨w.heap.size, 6, none⟩ (.int .u64 0)).setCell ⟨w.heap.size, 7, none⟩ (.int .i64 0)).setCell ⟨w.heap.size, 8, none⟩ (.int .u64 0)).setCell ⟨w.heap.size, 9, none⟩ (.slice none 0 0)).setCell ⟨w.heap.size, 10, none⟩ (.slice none 0 0) = W6 at k6 HB6 ⊢
    haveI := k6
    refine bodyPost_ret (v := .tuple #[.agg #[.int .i64 0, .int .i64 0, .int .u64 0, .int .u64 0, .int .u64 0, .slice none 0 0, .int .u64 0, .int .i64 0, .int .u64 0, .slice none 0 0, .slice none 0 0], .int .i64 3]) (by simp [results, Tryz.results21, go_sem]) rfl ?_
    rw [HF.out]
    exact RetDec.no HB6.out
  · rw [if_neg hk1] at T5
    have HF : Hid (finN ⟨k, 0, 0, 0, 0, none, 0, [], vw0⟩ (bs4, bad4) = some ⟨k, 0, 0, 0, 0, none, 0, [], vw0⟩) := hide ((if_neg hk1).trans (if_neg (by intro h; have h' : Nt.mayB ⟨k, 0, 0, 0, 0, none, 0, [], vw0⟩ = false := h; rw [hk2] at h'; cases h')))
    rw [hk2] at T6
    clear hk1 hk2
    go_wp2_with fail
    with_reducible refine T5.out.mono ?_
    rintro e w5 ⟨rfl, hR5, hG5⟩
    have D5 := D4.read (s' := (bs4, bad4 || decide (0 < bs4.length))) hG5 hR5 (Nat.le_refl _)
    haveI : BoxAt w5 w2.heap.size #[.int .i64 k, .int .i64 0, .int .u64 0, .int .u64 0, .int .u64 0, .slice none 0 0, .int .u64 0, .int .i64 0, .int .u64 0, .slice none 0 0, .slice none 0 0] 32 := D5.kn
    have ok5 : Nt.Ok w5 ⟨k, 0, 0, 0, 0, none, 0, [], vw0⟩ := ⟨Reads.of_own D5.os, HOK4.out.sl, ⟨Reads.of_own D5.om, Reads.of_own D5.ou, HOK4.out.vk.ml, HOK4.out.vk.ul⟩⟩
    clear D4 hR5 hG5 T5
    go_wp2_with fail
    (with_reducible refine (T6.out _ ok5).mono ?_)
    rintro e w7 ⟨rfl, hb7⟩
    have D7 := D5.below hb7
    haveI := D7.k0
    haveI : BoxAt w7 w2.heap.size #[.int .i64 k, .int .i64 0, .int .u64 0, .int .u64 0, .int .u64 0, .slice none 0 0, .int .u64 0, .int .i64 0, .int .u64 0, .slice none 0 0, .slice none 0 0] 32 := D7.kn
    obtain ⟨k6, g6⟩ := set11 D7.k0 (.int .i64 k) (.int .i64 0) (.int .u64 0) (.int .u64 0) (.int .u64 0) (.slice none 0 0) (.int .u64 0) (.int .i64 0) (.int .u64 0) (.slice none 0 0) (.slice none 0 0)
    have HB6 := hide (D7.hB.trans (grown_to_below g6 (Nat.le_refl _) D7.hB.size))
    have q1 := own_grown D7.os g6 (by omega)
    have q2 := own_grown D7.om g6 (by omega)
    have q3 := own_grown D7.ou g6 (by omega)
    have HQ1 := hide q1
    have HQ2 := hide q2
    have HQ3 := hide q3
    clear D5 D7 T6 ok5 hb7 q1 q2 q3
    go_wp2
    generalize ((((((((((w7.setCell ⟨w.heap.size, 0, none⟩ (.int .i64 k)).setCell ⟨w.heap.size, 1, none⟩ (.int .i64 0)).setCell ⟨w.heap.size, 2, none⟩ (.int .u64 0)).setCell ⟨w.heap.size, 3, none⟩ (.int .u64 0)).setCell ⟨w.heap.size, 4, none⟩ (.int .u64 0)).setCell ⟨w.heap.size, 5, none⟩ (.slice none 0 0)).setCell ⟨w.heap.size, 6, none⟩ (.int .u64 0)).setCell ⟨w.heap.size, 7, none⟩ (.int .i64 0)).setCell ⟨w.heap.size, 8, none⟩ (.int .u64 0)).setCell ⟨w.heap.size, 9, none⟩ (.slice none 0 0)).setCell ⟨w.heap.size, 10, none⟩ (.slice none 0 0) = W6 at k6 HB6 HQ1 HQ2 HQ3 ⊢
    haveI := k6
    refine bodyPost_ret (v := .tuple #[.agg #[.int .i64 k, .int .i64 0, .int .u64 0, .int .u64 0, .int .u64 0, .slice none 0 0, .int .u64 0, .int .i64 0, .int .u64 0, .slice none 0 0, .slice none 0 0], .int .i64 0]) (by simp [results, Tryz.results21, go_sem]) rfl ?_
    rw [HF.out]
    exact ⟨_, _, _, _, _, _, rfl, ⟨Reads.of_own HQ1.out, HOK4.out.sl, ⟨Reads.of_own HQ2.out, Reads.of_own HQ3.out, HOK4.out.vk.ml, HOK4.out.vk.ul⟩⟩, HB6.out⟩
theorem rRun_mem (k : Nat) (s : RS) : (rRun k s []).1.length ≤ k := rRun_le k s
theorem rGetSet_most (most : Nat) (s : RS) : (rGetSet most s).1.length ≤ most := by
  have := rRun_le (rU8 s).1.toNat (rU8 s).2
  rw [rGetSet_eq]
  split
  · simp
  · rename_i h
    have h2 := (not_or.1 h).2
    split
    · simp
    · split
      · omega
      · simp
theorem rUints_length : ∀ (k : Nat) (s : RS) (acc : List Int), (rUints k s acc).1.length = acc.length + k := by
  intro k
  induction k with
  | zero => intro s acc; rfl
  | succ k ih => intro s acc; rw [rUints, ih]; simp; omega
theorem rView_most (s : RS) : (rView s).1.2.1.length ≤ 6 ∧ (rView s).1.2.2.length ≤ 6 := by
  have h1 := rGetSet_most 6 (rId s).2
  have h2 := rUints_length (rGetSet 6 (rId s).2).1.length (rGetSet 6 (rId s).2).2 []
  rw [rView_eq]
  split
  · simp
  · simp at h2 ⊢; omega
/-- what bytes are read as, and what is left -/
def rNt (bs : List Int) : Nt × RS :=
  let a := rU8 (bs, false)
  if a.1 = 1 ∨ a.1 = 3 then
    (⟨a.1, (rGet a.2).1.1, (rGet a.2).1.2, (rUint (rGet a.2).2).1, (rUint (rUint (rGet a.2).2).2).1, none, 0, (rGetSet 6 (rUint (rUint (rGet a.2).2).2).2).1, vw0⟩, (rGetSet 6 (rUint (rUint (rGet a.2).2).2).2).2)
  else if a.1 = 2 then (⟨2, (rGet a.2).1.1, (rGet a.2).1.2, 0, 0, none, 0, [], vw0⟩, (rGet a.2).2)
  else if a.1 = 4 then (⟨4, (rGet a.2).1.1, (rGet a.2).1.2, 0, (rUint (rGet a.2).2).1, none, 0, (rGetSet 6 (rUint (rGet a.2).2).2).1, vw0⟩, (rGetSet 6 (rUint (rGet a.2).2).2).2)
  else if a.1 = 5 then (⟨5, 0, 0, 0, 0, none, 0, [], ⟨(rView a.2).1.1.1, (rView a.2).1.1.2.1, (rView a.2).1.1.2.2, none, 0, (rView a.2).1.2.1, none, 0, (rView a.2).1.2.2⟩⟩, (rView a.2).2)
  else (⟨a.1, 0, 0, 0, 0, none, 0, [], vw0⟩, a.2)
/-- the notice whose bytes these are -/
def decN (bs : List Int) : Option Nt := finN (rNt bs).1 (rNt bs).2
theorem decode_s (A : Option Addr) (c : Nat) (bs : List Int) (w : World) (hr : Reads w w.heap.size 1 A bs.length (bcs bs)) (hn : bs.length ≤ 1000000) (hok : bOK bs) :
    Calls Tryz.prog 21 #[.slice A bs.length c] w (RetDec w (decN bs)) := by
  unfold decN rNt
  generalize hu : rU8 (bs, false) = a
  obtain ⟨k, s⟩ := a
  simp only
  have m1 := rGetSet_most 6 (rUint (rUint (rGet s).2).2).2
  have m2 := rGetSet_most 6 (rUint (rGet s).2).2
  have m3 := rView_most s
  by_cases k1 : k = 1 ∨ k = 3
  · rw [if_pos k1]
    rcases k1 with rfl | rfl
    · exact dec1 A c bs w hr hn hok s (rGet s).2 (rUint (rGet s).2).2 (rUint (rUint (rGet s).2).2).2 (rGetSet 6 (rUint (rUint (rGet s).2).2).2).2 (rGet s).1.1 (rGet s).1.2 (rUint (rGet s).2).1 (rUint (rUint (rGet s).2).2).1 (rGetSet 6 (rUint (rUint (rGet s).2).2).2).1 rfl rfl rfl rfl (by omega) hu
    · exact dec3 A c bs w hr hn hok s (rGet s).2 (rUint (rGet s).2).2 (rUint (rUint (rGet s).2).2).2 (rGetSet 6 (rUint (rUint (rGet s).2).2).2).2 (rGet s).1.1 (rGet s).1.2 (rUint (rGet s).2).1 (rUint (rUint (rGet s).2).2).1 (rGetSet 6 (rUint (rUint (rGet s).2).2).2).1 rfl rfl rfl rfl (by omega) hu
  · rw [if_neg k1]
    by_cases k2 : k = 2
    · subst k2
      rw [if_pos rfl]
      exact dec2 A c bs w hr hn hok s (rGet s).2 (rGet s).1.1 (rGet s).1.2 rfl hu
    · rw [if_neg k2]
      by_cases k4 : k = 4
      · subst k4
        rw [if_pos rfl]
        exact dec4 A c bs w hr hn hok s (rGet s).2 (rUint (rGet s).2).2 (rGetSet 6 (rUint (rGet s).2).2).2 (rGet s).1.1 (rGet s).1.2 (rUint (rGet s).2).1 (rGetSet 6 (rUint (rGet s).2).2).1 rfl rfl rfl (by omega) hu
      · rw [if_neg k4]
        by_cases k5 : k = 5
        · subst k5
          rw [if_pos rfl]
          exact dec5 A c bs w hr hn hok s (rView s).2 (rView s).1.1.1 (rView s).1.1.2.1 (rView s).1.1.2.2 (rView s).1.2.1 (rView s).1.2.2 rfl (by omega) (by omega) hu
        · rw [if_neg k5]
          exact dec_else A c bs w hr hn hok k s ⟨k5, by omega, by omega, k2, k4⟩ hu
end Go.Proofs.YtdmjopokclljlaaGreat

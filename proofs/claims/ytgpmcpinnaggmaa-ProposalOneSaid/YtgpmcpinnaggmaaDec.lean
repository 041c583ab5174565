/-
  Layer 8: contracts: the closures of notice.Decode.
-/
import Derived.Test.YtgpmcpinnaggmaaEnc
namespace Go.Proofs.Ytgpmcpinnaggmaa
set_option linter.unusedSimpArgs false
set_option linter.unusedVariables false
set_option linter.unusedSectionVars false
open Go.RowKit

abbrev Nt.cs (x : Nt) : Array Value := csN x.k x.n x.i x.rd x.cd x.SA x.st.length x.sc x.vw.r x.vw.n x.vw.i x.vw.MA x.vw.ms.length x.vw.mc x.vw.UA x.vw.us.length x.vw.uc
abbrev nt0 : Nt := ⟨0, 0, 0, 0, 0, none, 0, [], vw0⟩
/-- while it is read -/
structure DN (w : World) (g B m nb : Nat) (x : Nt) (s : RS) (W : World) : Prop where
  k0 : BoxAt W w.heap.size #[.int .i64 0, .int .i64 0, .int .u64 0, .int .u64 0, .int .u64 0, .slice none 0 0, .int .u64 0, .int .i64 0, .int .u64 0, .slice none 0 0, .slice none 0 0] 34
  km : BoxAt W m #[.pointer (some ⟨g, 0, none⟩)] 64
  kn : BoxAt W nb x.cs 34
  rd : Rds W g B s.1 s.2
  os : OwnP W (nb + 1) (.slice x.SA x.st.length x.sc) x.st
  om : OwnP W (nb + 1) (.slice x.vw.MA x.vw.ms.length x.vw.mc) x.vw.ms
  ou : W.ownsRow (nb + 1) 24 1 (.slice x.vw.UA x.vw.us.length x.vw.uc) x.vw.us.length (ucs x.vw.us)
  hB : Below w.heap.size w W
  h1 : w.heap.size < g
  h2 : g < B
  h3 : B ≤ m
  h4 : m < nb
  hl : s.1.length ≤ 1000000
section
variable {w W W' : World} {g B m nb : Nat} {x x' : Nt} {s s' : RS}
theorem DN.read (h : DN w g B m nb x s W) (hG : W.grownBy W' (some g)) (hR : Rds W' g B s'.1 s'.2) (hl : s'.1.length ≤ s.1.length) : DN w g B m nb x s' W' := by
  obtain ⟨k0, km, kn, rd, os, om, ou, hB, h1, h2, h3, h4, h5⟩ := h
  exact ⟨k0.grown hG (by omega), km.grown hG (by omega), kn.grown hG (by omega), hR, own_grown os hG (by omega), own_grown om hG (by omega), own_grown ou hG (by omega), hB.trans (grown_to_below hG (by omega) hB.size), h1, h2, h3, h4, by omega⟩
theorem DN.below (h : DN w g B m nb x s W) (hb : Below W.heap.size W W') : DN w g B m nb x s W' := by
  obtain ⟨k0, km, kn, rd, os, om, ou, hB, h1, h2, h3, h4, h5⟩ := h
  exact ⟨k0.step hb, km.step hb, kn.step hb, rd.step hb, own_below os hb (Nat.le_refl _), own_below om hb (Nat.le_refl _), own_below ou hb (Nat.le_refl _), below_step hB hb, h1, h2, h3, h4, h5⟩
theorem DN.set (h : DN w g B m nb x s W) (hG : W.grownBy W' (some nb)) (kn' : BoxAt W' nb x'.cs 34) (os' : OwnP W (nb + 1) (.slice x'.SA x'.st.length x'.sc) x'.st) (om' : OwnP W (nb + 1) (.slice x'.vw.MA x'.vw.ms.length x'.vw.mc) x'.vw.ms) (ou' : W.ownsRow (nb + 1) 24 1 (.slice x'.vw.UA x'.vw.us.length x'.vw.uc) x'.vw.us.length (ucs x'.vw.us)) : DN w g B m nb x' s W' := by
  obtain ⟨k0, km, kn, rd, os, om, ou, hB, h1, h2, h3, h4, h5⟩ := h
  have hk := kn.lt
  exact ⟨k0.grown hG (by omega), km.grown hG (by omega), kn', rd.below (grown_to_below hG (by omega) (by omega)), own_grown os' hG (by omega), own_grown om' hG (by omega), own_grown ou' hG (by omega), hB.trans (grown_to_below hG (by omega) hB.size), h1, h2, h3, h4, h5⟩
end
/-- all other boxes stay -/
def Kp (g nb : Nat) (W W' : World) : Prop := ∀ (k : Nat) (cs : Array Value) (t : TypeId), k ≠ g → k ≠ nb → BoxAt W k cs t → BoxAt W' k cs t
theorem setB1 {w : World} {n i : Nat} {v : Value} {cs : Array Value} {t : TypeId} (h : BoxAt w n cs t) : BoxAt (w.setCell ⟨n, i, none⟩ v) n (cs.setIfInBounds i v) t := ⟨setCell_block _ _ _ _ _ _ h.eq⟩
set_option maxHeartbeats 1000000 in
theorem dWho_s (w W : World) (g B m nb : Nat) (x : Nt) (s : RS) (h : DN w g B m nb x s W) :
    Calls Try.prog 38 #[.pointer (some ⟨m, 0, none⟩), .pointer (some ⟨nb, 0, none⟩)] W fun e W' => e = .returned (.tuple #[]) ∧ (DN w g B m nb ⟨x.k, (rGet s).1.1, (rGet s).1.2, x.rd, x.cd, x.SA, x.sc, x.st, x.vw⟩ (rGet s).2 W') ∧ Kp g nb W W' := by
  have T := hide (getP_s g B s W h.rd h.hl)
  have hlen := rGet_len s
  generalize rGet s = q at T hlen ⊢
  obtain ⟨⟨a, b⟩, s'⟩ := q
  simp only at T hlen ⊢
  obtain ⟨k, n, i, rd, cd, SA, sc, st, ⟨r, vn, vi, MA, mc, ms, UA, uc, us⟩⟩ := x
  haveI : BoxAt W nb #[.int .i64 k, .int .i64 n, .int .u64 i, .int .u64 rd, .int .u64 cd, .slice SA st.length sc, .int .u64 r, .int .i64 vn, .int .u64 vi, .slice MA ms.length mc, .slice UA us.length uc] 34 := h.kn
  haveI := h.km
  have hnl := h.kn.lt
  go_enter Try.func38, Try.ntmps38
  go_wp2_with fail
  with_reducible refine T.out.mono ?_
  rintro e w1 ⟨rfl, hR, hG⟩
  have D1 := h.read (s' := s') hG hR hlen
  haveI : BoxAt w1 nb #[.int .i64 k, .int .i64 n, .int .u64 i, .int .u64 rd, .int .u64 cd, .slice SA st.length sc, .int .u64 r, .int .i64 vn, .int .u64 vi, .slice MA ms.length mc, .slice UA us.length uc] 34 := D1.kn
  have D2 := hide (D1.set (W' := ((w1.setCell ⟨nb, 1, none⟩ (.int .i64 a)).setCell ⟨nb, 2, none⟩ (.int .u64 b))) (x' := ⟨k, a, b, rd, cd, SA, sc, st, ⟨r, vn, vi, MA, mc, ms, UA, uc, us⟩⟩) (grown_trans (grown_setCell w1 nb 1 (.int .i64 a)) (grown_setCell (w1.setCell ⟨nb, 1, none⟩ (.int .i64 a)) nb 2 (.int .u64 b))) (setB1 (i := 2) (v := .int .u64 b) (setB1 (i := 1) (v := .int .i64 a) (D1.kn))) D1.os D1.om D1.ou)
  have HK : Hid (Kp g nb W ((w1.setCell ⟨nb, 1, none⟩ (.int .i64 a)).setCell ⟨nb, 2, none⟩ (.int .u64 b))) := hide (fun k cs t a1 a2 a3 => (((a3.grown hG a1).set a2).set a2))
  clear h hR hG D1 T
  go_wp2
  go_end0
  exact ⟨rfl, D2.out, HK.out⟩
set_option maxHeartbeats 1000000 in
theorem dRound_s (w W : World) (g B m nb : Nat) (x : Nt) (s : RS) (h : DN w g B m nb x s W) :
    Calls Try.prog 40 #[.pointer (some ⟨m, 0, none⟩), .pointer (some ⟨nb, 0, none⟩)] W fun e W' => e = .returned (.tuple #[]) ∧ (DN w g B m nb ⟨x.k, x.n, x.i, (rUint s).1, x.cd, x.SA, x.sc, x.st, x.vw⟩ (rUint s).2 W') ∧ Kp g nb W W' := by
  have T := hide (uintR_s g B s W h.rd h.hl)
  have hlen := rUint_len s
  generalize rUint s = q at T hlen ⊢
  obtain ⟨a, s'⟩ := q
  simp only at T hlen ⊢
  obtain ⟨k, n, i, rd, cd, SA, sc, st, ⟨r, vn, vi, MA, mc, ms, UA, uc, us⟩⟩ := x
  haveI : BoxAt W nb #[.int .i64 k, .int .i64 n, .int .u64 i, .int .u64 rd, .int .u64 cd, .slice SA st.length sc, .int .u64 r, .int .i64 vn, .int .u64 vi, .slice MA ms.length mc, .slice UA us.length uc] 34 := h.kn
  haveI := h.km
  have hnl := h.kn.lt
  go_enter Try.func40, Try.ntmps40
  go_wp2_with fail
  with_reducible refine T.out.mono ?_
  rintro e w1 ⟨rfl, hR, hG⟩
  have D1 := h.read (s' := s') hG hR hlen
  haveI : BoxAt w1 nb #[.int .i64 k, .int .i64 n, .int .u64 i, .int .u64 rd, .int .u64 cd, .slice SA st.length sc, .int .u64 r, .int .i64 vn, .int .u64 vi, .slice MA ms.length mc, .slice UA us.length uc] 34 := D1.kn
  have D2 := hide (D1.set (W' := (w1.setCell ⟨nb, 3, none⟩ (.int .u64 a))) (x' := ⟨k, n, i, a, cd, SA, sc, st, ⟨r, vn, vi, MA, mc, ms, UA, uc, us⟩⟩) (grown_setCell w1 nb 3 (.int .u64 a)) (setB1 (i := 3) (v := .int .u64 a) (D1.kn)) D1.os D1.om D1.ou)
  have HK : Hid (Kp g nb W (w1.setCell ⟨nb, 3, none⟩ (.int .u64 a))) := hide (fun k cs t a1 a2 a3 => ((a3.grown hG a1).set a2))
  clear h hR hG D1 T
  go_wp2
  go_end0
  exact ⟨rfl, D2.out, HK.out⟩
set_option maxHeartbeats 1000000 in
theorem dCid_s (w W : World) (g B m nb : Nat) (x : Nt) (s : RS) (h : DN w g B m nb x s W) :
    Calls Try.prog 42 #[.pointer (some ⟨m, 0, none⟩), .pointer (some ⟨nb, 0, none⟩)] W fun e W' => e = .returned (.tuple #[]) ∧ (DN w g B m nb ⟨x.k, x.n, x.i, x.rd, (rUint s).1, x.SA, x.sc, x.st, x.vw⟩ (rUint s).2 W') ∧ Kp g nb W W' := by
  have T := hide (uintR_s g B s W h.rd h.hl)
  have hlen := rUint_len s
  generalize rUint s = q at T hlen ⊢
  obtain ⟨a, s'⟩ := q
  simp only at T hlen ⊢
  obtain ⟨k, n, i, rd, cd, SA, sc, st, ⟨r, vn, vi, MA, mc, ms, UA, uc, us⟩⟩ := x
  haveI : BoxAt W nb #[.int .i64 k, .int .i64 n, .int .u64 i, .int .u64 rd, .int .u64 cd, .slice SA st.length sc, .int .u64 r, .int .i64 vn, .int .u64 vi, .slice MA ms.length mc, .slice UA us.length uc] 34 := h.kn
  haveI := h.km
  have hnl := h.kn.lt
  go_enter Try.func42, Try.ntmps42
  go_wp2_with fail
  with_reducible refine T.out.mono ?_
  rintro e w1 ⟨rfl, hR, hG⟩
  have D1 := h.read (s' := s') hG hR hlen
  haveI : BoxAt w1 nb #[.int .i64 k, .int .i64 n, .int .u64 i, .int .u64 rd, .int .u64 cd, .slice SA st.length sc, .int .u64 r, .int .i64 vn, .int .u64 vi, .slice MA ms.length mc, .slice UA us.length uc] 34 := D1.kn
  have D2 := hide (D1.set (W' := (w1.setCell ⟨nb, 4, none⟩ (.int .u64 a))) (x' := ⟨k, n, i, rd, a, SA, sc, st, ⟨r, vn, vi, MA, mc, ms, UA, uc, us⟩⟩) (grown_setCell w1 nb 4 (.int .u64 a)) (setB1 (i := 4) (v := .int .u64 a) (D1.kn)) D1.os D1.om D1.ou)
  have HK : Hid (Kp g nb W (w1.setCell ⟨nb, 4, none⟩ (.int .u64 a))) := hide (fun k cs t a1 a2 a3 => ((a3.grown hG a1).set a2))
  clear h hR hG D1 T
  go_wp2
  go_end0
  exact ⟨rfl, D2.out, HK.out⟩
set_option maxHeartbeats 1000000 in
theorem dSet_s (w W : World) (g B m nb : Nat) (x : Nt) (s : RS) (h : DN w g B m nb x s W) :
    Calls Try.prog 43 #[.pointer (some ⟨m, 0, none⟩), .pointer (some ⟨nb, 0, none⟩)] W fun e W' => e = .returned (.tuple #[]) ∧ (∃ A c, DN w g B m nb ⟨x.k, x.n, x.i, x.rd, x.cd, A, c, (rGetSet 6 s).1, x.vw⟩ (rGetSet 6 s).2 W') ∧ Kp g nb W W' := by
  have T := hide (show Calls Try.prog 44 #[.pointer (some ⟨g, 0, none⟩), .int .i64 6] W (RetRP g B W (rGetSet 6 s).1 (rGetSet 6 s).2) from getSet_s g B 6 s W h.rd h.hl (by omega))
  have hlen := rGetSet_len 6 s
  generalize rGetSet 6 s = q at T hlen ⊢
  obtain ⟨l, s'⟩ := q
  simp only at T hlen ⊢
  obtain ⟨k, n, i, rd, cd, SA, sc, st, ⟨r, vn, vi, MA, mc, ms, UA, uc, us⟩⟩ := x
  haveI : BoxAt W nb #[.int .i64 k, .int .i64 n, .int .u64 i, .int .u64 rd, .int .u64 cd, .slice SA st.length sc, .int .u64 r, .int .i64 vn, .int .u64 vi, .slice MA ms.length mc, .slice UA us.length uc] 34 := h.kn
  haveI := h.km
  have hnl := h.kn.lt
  go_enter Try.func43, Try.ntmps43
  go_wp2_with fail
  with_reducible refine T.out.mono ?_
  rintro e w1 ⟨v1, rfl, ho, hR, hG⟩
  have D1 := h.read (s' := s') hG hR hlen
  haveI : BoxAt w1 nb #[.int .i64 k, .int .i64 n, .int .u64 i, .int .u64 rd, .int .u64 cd, .slice SA st.length sc, .int .u64 r, .int .i64 vn, .int .u64 vi, .slice MA ms.length mc, .slice UA us.length uc] 34 := D1.kn
  obtain ⟨A1, c1, rfl, _, _⟩ := own_slice ho
  have D2 := hide (D1.set (W' := (w1.setCell ⟨nb, 5, none⟩ (.slice A1 l.length c1))) (x' := ⟨k, n, i, rd, cd, A1, c1, l, ⟨r, vn, vi, MA, mc, ms, UA, uc, us⟩⟩) (grown_setCell w1 nb 5 (.slice A1 l.length c1)) (setB1 (i := 5) (v := .slice A1 l.length c1) (D1.kn)) (own_base ho (by omega)) D1.om D1.ou)
  have HK : Hid (Kp g nb W (w1.setCell ⟨nb, 5, none⟩ (.slice A1 l.length c1))) := hide (fun k cs t a1 a2 a3 => ((a3.grown hG a1).set a2))
  clear h hR hG D1 T
  go_wp2
  go_end0
  exact ⟨rfl, ⟨_, _, D2.out⟩, HK.out⟩
theorem rView_len (s : RS) : (rView s).2.1.length ≤ s.1.length := by
  have h1 := rId_len s
  have h2 := rGetSet_len 6 (rId s).2
  have h3 := rUints_len (rGetSet 6 (rId s).2).1.length (rGetSet 6 (rId s).2).2 []
  rw [rView_eq]
  split <;> (simp only; omega)
set_option maxHeartbeats 1000000 in
theorem dWhole_s (w W : World) (g B m nb : Nat) (x : Nt) (s : RS) (h : DN w g B m nb x s W) :
    Calls Try.prog 45 #[.pointer (some ⟨m, 0, none⟩), .pointer (some ⟨nb, 0, none⟩)] W fun e W' => e = .returned (.tuple #[]) ∧ (∃ A c A' c', DN w g B m nb ⟨x.k, x.n, x.i, x.rd, x.cd, x.SA, x.sc, x.st, ⟨(rView s).1.1.1, (rView s).1.1.2.1, (rView s).1.1.2.2, A, c, (rView s).1.2.1, A', c', (rView s).1.2.2⟩⟩ (rView s).2 W') ∧ Kp g nb W W' := by
  have T := hide (getV_s g B s W h.rd h.hl)
  have hlen := rView_len s
  generalize rView s = q at T hlen ⊢
  obtain ⟨⟨⟨a, b, c⟩, ms', us'⟩, s'⟩ := q
  simp only at T hlen ⊢
  obtain ⟨k, n, i, rd, cd, SA, sc, st, ⟨r, vn, vi, MA, mc, ms, UA, uc, us⟩⟩ := x
  haveI : BoxAt W nb #[.int .i64 k, .int .i64 n, .int .u64 i, .int .u64 rd, .int .u64 cd, .slice SA st.length sc, .int .u64 r, .int .i64 vn, .int .u64 vi, .slice MA ms.length mc, .slice UA us.length uc] 34 := h.kn
  haveI := h.km
  have hnl := h.kn.lt
  go_enter Try.func45, Try.ntmps45
  go_wp2_with fail
  with_reducible refine T.out.mono ?_
  rintro e w1 ⟨A1, c1, A2, c2, rfl, ho, hu, hR, hG⟩
  have D1 := h.read (s' := s') hG hR hlen
  haveI : BoxAt w1 nb #[.int .i64 k, .int .i64 n, .int .u64 i, .int .u64 rd, .int .u64 cd, .slice SA st.length sc, .int .u64 r, .int .i64 vn, .int .u64 vi, .slice MA ms.length mc, .slice UA us.length uc] 34 := D1.kn
  have D2 := hide (D1.set (W' := (((((w1.setCell ⟨nb, 6, none⟩ (.int .u64 a)).setCell ⟨nb, 7, none⟩ (.int .i64 b)).setCell ⟨nb, 8, none⟩ (.int .u64 c)).setCell ⟨nb, 9, none⟩ (.slice A1 ms'.length c1)).setCell ⟨nb, 10, none⟩ (.slice A2 us'.length c2))) (x' := ⟨k, n, i, rd, cd, SA, sc, st, ⟨a, b, c, A1, c1, ms', A2, c2, us'⟩⟩) (grown_trans (grown_trans (grown_trans (grown_trans (grown_setCell w1 nb 6 (.int .u64 a)) (grown_setCell (w1.setCell ⟨nb, 6, none⟩ (.int .u64 a)) nb 7 (.int .i64 b))) (grown_setCell ((w1.setCell ⟨nb, 6, none⟩ (.int .u64 a)).setCell ⟨nb, 7, none⟩ (.int .i64 b)) nb 8 (.int .u64 c))) (grown_setCell (((w1.setCell ⟨nb, 6, none⟩ (.int .u64 a)).setCell ⟨nb, 7, none⟩ (.int .i64 b)).setCell ⟨nb, 8, none⟩ (.int .u64 c)) nb 9 (.slice A1 ms'.length c1))) (grown_setCell ((((w1.setCell ⟨nb, 6, none⟩ (.int .u64 a)).setCell ⟨nb, 7, none⟩ (.int .i64 b)).setCell ⟨nb, 8, none⟩ (.int .u64 c)).setCell ⟨nb, 9, none⟩ (.slice A1 ms'.length c1)) nb 10 (.slice A2 us'.length c2))) (setB1 (i := 10) (v := .slice A2 us'.length c2) (setB1 (i := 9) (v := .slice A1 ms'.length c1) (setB1 (i := 8) (v := .int .u64 c) (setB1 (i := 7) (v := .int .i64 b) (setB1 (i := 6) (v := .int .u64 a) (D1.kn)))))) D1.os (own_base ho (by omega)) (own_base hu (by omega)))
  have HK : Hid (Kp g nb W (((((w1.setCell ⟨nb, 6, none⟩ (.int .u64 a)).setCell ⟨nb, 7, none⟩ (.int .i64 b)).setCell ⟨nb, 8, none⟩ (.int .u64 c)).setCell ⟨nb, 9, none⟩ (.slice A1 ms'.length c1)).setCell ⟨nb, 10, none⟩ (.slice A2 us'.length c2))) := hide (fun k cs t a1 a2 a3 => ((((((a3.grown hG a1).set a2).set a2).set a2).set a2).set a2))
  clear h hR hG D1 T
  go_wp2
  go_end0
  exact ⟨rfl, ⟨_, _, _, _, D2.out⟩, HK.out⟩
end Go.Proofs.Ytgpmcpinnaggmaa

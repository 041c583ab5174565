/-
  Layer 21: contracts at the chapter's example: a life's sync for a view, Ready, Transit.
-/
import Derived.Test.YtmleeohaaipdcaaLet4
import Derived.Test.YtmleeohaaipdcaaRef4
namespace Go.Proofs.Ytmleeohaaipdcaa
set_option linter.unusedSimpArgs false
set_option linter.unusedVariables false
set_option linter.unusedSectionVars false
open Go.RowKit

set_option maxRecDepth 100000 in
set_option maxHeartbeats 4000000 in
theorem sync_s (x : Vw) (pn pi cid : Int) (A : Option Addr) (c : Nat) (l : List Lr) (w : World) (hx : x.Ok w) (h : LsR w A l) (hl : l.length ≤ 100000) (hs : startV x.ms x.us (pn, pi) = .tuple #[.int .u64 cid, .bool true]) :
    Calls Try.prog 72 #[.agg #[.int .u64 x.r, .int .i64 x.n, .int .u64 x.i, .slice x.MA x.ms.length x.mc, .slice x.UA x.us.length x.uc], .agg #[.int .i64 pn, .int .u64 pi], .slice A l.length c] w (RetFo w (findL (l.map Lr.x) (pn, pi) cid)) := by
  have HL := hide h
  have HX := hide hx
  have T1 : Hid (∀ W, x.Ok W → Calls Try.prog 103 #[.agg #[.int .u64 x.r, .int .i64 x.n, .int .u64 x.i, .slice x.MA x.ms.length x.mc, .slice x.UA x.us.length x.uc], .agg #[.int .i64 pn, .int .u64 pi]] W fun e w' => e = .returned (.tuple #[.int .u64 cid, .bool true]) ∧ Below W.heap.size W w') := hide (fun W h => by
    have := start_s x pn pi W h
    rw [hs] at this
    exact this)
  have T2 := hide (fun W (h : LsR W A l) => findO_s A c l pn pi cid W h hl)
  generalize findL (l.map Lr.x) (pn, pi) cid = r at T2
  clear h hx hs
  go_enter Try.func72, Try.ntmps72
  go_wp2_with fail
  (with_reducible refine (T1.out _ (HX.out.step blw)).mono ?_)
  rintro e w1 ⟨rfl, hb1⟩
  haveI : Stp _ w1 := ⟨hb1⟩
  have z1 := hb1.size
  simp at z1
  clear hb1
  go_wp2_with fail
  (with_reducible refine (T2.out _ HL.out.tc).mono ?_)
  rintro e w2 ⟨z, hz, rfl, ho1, ho2, hwf, hb2⟩
  haveI : Stp _ w2 := ⟨hb2⟩
  have O1 := hide (own_base ho1 (show w.heap.size + 1 + 1 + 1 ≤ _ by omega))
  have O2 := hide (own_base ho2 (show w.heap.size + 1 + 1 + 1 ≤ _ by omega))
  have HZ := hide hz
  have HWF := hide hwf
  have z2 := hb2.size
  haveI : LtN (w.heap.size + 1 + 1) (w.heap.size + 1 + 1 + 1) := ⟨by omega⟩
  clear ho1 ho2 hz hwf hb2
  go_wp2
  refine bodyPost_ret (v := .tuple #[z.v, .bool r.isSome]) (by simp [results, Try.results72, go_sem]) rfl ?_
  exact ⟨z, HZ.out, rfl, own_base (own_kp O1.out) (by omega), own_base (own_kp O2.out) (by omega), HWF.out, blw⟩
/-! the chapter's example -/
def vA (MA : Option Addr) (mc : Nat) (UA : Option Addr) (uc : Nat) : Vw := ⟨3, 1, 1, MA, mc, [(5, 2), (6, 1), (7, 1)], UA, uc, [1, 1, 1]⟩
def vB (MB : Option Addr) (nc : Nat) (UB : Option Addr) (ud : Nat) : Vw := ⟨4, 1, 1, MB, nc, [(5, 2), (6, 1)], UB, ud, [4, 9]⟩
def aL : Lc := ⟨8, (6, 1), 3, (1, 1), 0, [], 9, [1, 3, 0], false⟩
theorem ex_both : chosenL [(5, 2), (6, 1), (7, 1)] [(5, 2), (6, 1)] true = [(5, 2), (6, 1)] := by
  unfold chosenL
  rw [sortedL_eq (m := [(5, 2), (6, 1), (7, 1)]) (by simp [SS, ltP]) (fun x => Iff.rfl)]
  decide
/-- what the example's functions are told -/
structure ExIn (MA : Option Addr) (mc : Nat) (UA : Option Addr) (uc : Nat) (MB : Option Addr) (nc : Nat) (UB : Option Addr) (ud : Nat) (A : Option Addr) (c : Nat) (l : List Lr) (W : World) : Prop where
  vx : (vA MA mc UA uc).Ok W
  vy : (vB MB nc UB ud).Ok W
  ls : LsR W A l
  es : l.map Lr.x = [aL]
theorem ExIn.step {MA : Option Addr} {mc : Nat} {UA : Option Addr} {uc : Nat} {MB : Option Addr} {nc : Nat} {UB : Option Addr} {ud : Nat} {A : Option Addr} {c : Nat} {l : List Lr} {a W : World} (h : ExIn MA mc UA uc MB nc UB ud A c l a) (hb : Below a.heap.size a W) : ExIn MA mc UA uc MB nc UB ud A c l W := ⟨h.vx.step hb, h.vy.step hb, h.ls.step hb, h.es⟩
theorem exCommon (MA : Option Addr) (mc : Nat) (UA : Option Addr) (uc : Nat) (MB : Option Addr) (nc : Nat) (UB : Option Addr) (ud : Nat) (A : Option Addr) (c : Nat) (l : List Lr) (W : World) (h : ExIn MA mc UA uc MB nc UB ud A c l W) : Calls Try.prog 73 #[.agg #[.int .u64 3, .int .i64 1, .int .u64 1, .slice MA 3 mc, .slice UA 3 uc], .agg #[.int .u64 4, .int .i64 1, .int .u64 1, .slice MB 2 nc, .slice UB 2 ud]] W (RetS W [(5, 2), (6, 1)]) := by
  have := vcommon_s (vA MA mc UA uc) (vB MB nc UB ud) W h.vx h.vy
  rw [show chosenL (vA MA mc UA uc).ms (vB MB nc UB ud).ms true = [(5, 2), (6, 1)] from ex_both] at this
  exact this
theorem exLen {l : List Lr} (h : l.map Lr.x = [aL]) : l.length = 1 := by have := congrArg List.length h; rw [List.length_map] at this; exact this
theorem exSync1 (MA : Option Addr) (mc : Nat) (UA : Option Addr) (uc : Nat) (MB : Option Addr) (nc : Nat) (UB : Option Addr) (ud : Nat) (A : Option Addr) (c : Nat) (l : List Lr) (W : World) (h : ExIn MA mc UA uc MB nc UB ud A c l W) : Calls Try.prog 72 #[.agg #[.int .u64 4, .int .i64 1, .int .u64 1, .slice MB 2 nc, .slice UB 2 ud], .agg #[.int .i64 5, .int .u64 2], .slice A l.length c] W fun e w' => ∃ z : Lr, e = .returned (.tuple #[z.v, .bool false]) ∧ Below W.heap.size W w' := by
  have := sync_s (vB MB nc UB ud) 5 2 4 A c l W h.vy h.ls (by rw [exLen h.es]; omega) rfl
  rw [h.es, show findL [aL] (5, 2) 4 = none from rfl] at this
  exact this.mono fun e w' ⟨z, _, he, _, _, _, hb⟩ => ⟨z, he, hb⟩
theorem exSync2 (MA : Option Addr) (mc : Nat) (UA : Option Addr) (uc : Nat) (MB : Option Addr) (nc : Nat) (UB : Option Addr) (ud : Nat) (A : Option Addr) (c : Nat) (l : List Lr) (W : World) (h : ExIn MA mc UA uc MB nc UB ud A c l W) : Calls Try.prog 72 #[.agg #[.int .u64 4, .int .i64 1, .int .u64 1, .slice MB 2 nc, .slice UB 2 ud], .agg #[.int .i64 6, .int .u64 1], .slice A l.length c] W fun e w' => ∃ BA bc CA cc, e = .returned (.tuple #[.agg #[.int .i64 8, .int .i64 6, .int .u64 1, .int .u64 3, .int .i64 1, .int .u64 1, .int .u64 0, .slice BA 0 bc, .int .u64 9, .slice CA 3 cc, .bool false], .bool true]) ∧ OwnU w' W.heap.size (.slice CA 3 cc) [1, 3, 0] ∧ Below W.heap.size W w' := by
  have := sync_s (vB MB nc UB ud) 6 1 9 A c l W h.vy h.ls (by rw [exLen h.es]; omega) rfl
  rw [h.es, show findL [aL] (6, 1) 9 = some aL from rfl] at this
  refine this.mono ?_
  rintro e w' ⟨⟨x, BA, bc, CA, cc⟩, hz, he, _, ho, _, hb⟩
  have hz : x = aL := hz
  subst hz
  exact ⟨BA, bc, CA, cc, he, ho, hb⟩
theorem two_cells {W : World} {SA : Option Addr} (h : Sl W SA [(5, 2), (6, 1)]) : ∃ b off, SA = some ⟨b, off, none⟩ ∧ b < W.heap.size ∧ W.cell? ⟨b, off, none⟩ = some (.int .i64 5) ∧ W.cell? ⟨b, off + 1, none⟩ = some (.int .u64 2) ∧ W.cell? ⟨b, off + 2, none⟩ = some (.int .i64 6) ∧ W.cell? ⟨b, off + 3, none⟩ = some (.int .u64 1) := by
  obtain ⟨b, off, rfl, hb, hc⟩ := h.2 (by simp)
  exact ⟨b, off, rfl, hb, hc 0 _ rfl, hc 1 _ rfl, hc 2 _ rfl, hc 3 _ rfl⟩
set_option maxRecDepth 100000 in
set_option maxHeartbeats 4000000 in
theorem exReady (MA : Option Addr) (mc : Nat) (UA : Option Addr) (uc : Nat) (MB : Option Addr) (nc : Nat) (UB : Option Addr) (ud : Nat) (A : Option Addr) (c : Nat) (l : List Lr) (w : World) (h : ExIn MA mc UA uc MB nc UB ud A c l w) : Calls Try.prog 38 #[.agg #[.int .u64 3, .int .i64 1, .int .u64 1, .slice MA 3 mc, .slice UA 3 uc], .agg #[.int .u64 4, .int .i64 1, .int .u64 1, .slice MB 2 nc, .slice UB 2 ud], .agg #[.int .i64 5, .int .u64 2], .slice A l.length c] w (RetB w true) := by
  have H := hide h
  have T1 := hide (fun W h => exCommon MA mc UA uc MB nc UB ud A c l W h)
  have T2 := hide (fun W h => exSync1 MA mc UA uc MB nc UB ud A c l W h)
  have T3 := hide (fun W h => exSync2 MA mc UA uc MB nc UB ud A c l W h)
  clear h
  go_enter Try.func38, Try.ntmps38
  go_wp2_with fail
  (with_reducible refine (T1.out _ (H.out.step blw)).mono ?_)
  rintro e w1 ⟨SA, sc, rfl, hs, hb1⟩
  haveI : Stp _ w1 := ⟨hb1⟩
  have z1 := hb1.size
  simp at z1
  obtain ⟨b, off, rfl, hb, g0, g1, g2, g3⟩ := two_cells hs
  haveI : InW b w1 := ⟨hb⟩
  clear hs hb1
  simp only [List.length_cons, List.length_nil]
  go_wp2_with fail
  refine wp_loop_rounds 3 ?_
  rw [rounds_succ]
  go_wp2_with fail
  (with_reducible refine (T2.out _ (H.out.step blw)).mono ?_)
  rintro e w2 ⟨z, rfl, hb2⟩
  haveI : Stp _ w2 := ⟨hb2⟩
  clear hb2
  haveI : CellAt w1 b off _ := ⟨hb, g0⟩
  haveI : CellAt w1 b (off + 1) _ := ⟨hb, g1⟩
  haveI : CellAt w1 b (off + 2) _ := ⟨hb, g2⟩
  haveI : CellAt w1 b (off + 3) _ := ⟨hb, g3⟩
  clear g0 g1 g2 g3
  go_wp2_with fail
  rw [rounds_succ]
  go_wp2_with fail
  (with_reducible refine (T3.out _ (H.out.step blw)).mono ?_)
  rintro e w3 ⟨BA, bc, CA, cc, rfl, _, hb3⟩
  haveI : Stp _ w3 := ⟨hb3⟩
  clear hb3
  go_wp2_with fail
  rw [rounds_succ]
  go_wp2
  go_ret
  exact ⟨rfl, blw⟩
set_option maxRecDepth 100000 in
set_option maxHeartbeats 4000000 in
theorem exAlong1 (MA : Option Addr) (mc : Nat) (UA : Option Addr) (uc : Nat) (MB : Option Addr) (nc : Nat) (UB : Option Addr) (ud : Nat) (A : Option Addr) (c : Nat) (l : List Lr) (by_ bl bs bx : Nat) (w : World) (h : ExIn MA mc UA uc MB nc UB ud A c l w) [h1 : BoxAt w by_ #[.int .u64 4, .int .i64 1, .int .u64 1, .slice MB 2 nc, .slice UB 2 ud] 100] [h2 : BoxAt w bl #[.slice A l.length c] 22] [h3 : BoxAt w bs #[.int .i64 5, .int .u64 2] 25] [h4 : BoxAt w bx #[.int .u64 3, .int .i64 1, .int .u64 1, .slice MA 3 mc, .slice UA 3 uc] 100] :
    Calls Try.prog 105 #[.agg #[.int .i64 5, .int .u64 2], .pointer (some ⟨by_, 0, none⟩), .pointer (some ⟨bl, 0, none⟩), .pointer (some ⟨bs, 0, none⟩), .pointer (some ⟨bx, 0, none⟩)] w (RetB w true) := by
  have H := hide h
  have T2 := hide (fun W h => exSync1 MA mc UA uc MB nc UB ud A c l W h)
  have z1 := h1.lt
  have z2 := h2.lt
  have z3 := h3.lt
  have z4 := h4.lt
  haveI : LtN by_ w.heap.size := ⟨z1⟩
  haveI : LtN bl w.heap.size := ⟨z2⟩
  haveI : LtN bs w.heap.size := ⟨z3⟩
  haveI : LtN bx w.heap.size := ⟨z4⟩
  clear h
  go_enter Try.func105, Try.ntmps105
  go_wp2_with fail
  (with_reducible refine (T2.out _ (H.out.step blw)).mono ?_)
  rintro e w2 ⟨z, rfl, hb2⟩
  haveI : Stp _ w2 := ⟨hb2⟩
  have y2 := hb2.size
  simp at y2
  haveI : LtN by_ w2.heap.size := ⟨by omega⟩
  haveI : LtN bl w2.heap.size := ⟨by omega⟩
  haveI : LtN bs w2.heap.size := ⟨by omega⟩
  haveI : LtN bx w2.heap.size := ⟨by omega⟩
  haveI : LtN w.heap.size w2.heap.size := ⟨by omega⟩
  clear hb2
  go_wp2
  go_ret
  exact ⟨rfl, blw⟩
set_option maxRecDepth 100000 in
set_option maxHeartbeats 4000000 in
theorem exAlong2 (MA : Option Addr) (mc : Nat) (UA : Option Addr) (uc : Nat) (MB : Option Addr) (nc : Nat) (UB : Option Addr) (ud : Nat) (A : Option Addr) (c : Nat) (l : List Lr) (by_ bl bs bx : Nat) (w : World) (h : ExIn MA mc UA uc MB nc UB ud A c l w) [h1 : BoxAt w by_ #[.int .u64 4, .int .i64 1, .int .u64 1, .slice MB 2 nc, .slice UB 2 ud] 100] [h2 : BoxAt w bl #[.slice A l.length c] 22] [h3 : BoxAt w bs #[.int .i64 5, .int .u64 2] 25] [h4 : BoxAt w bx #[.int .u64 3, .int .i64 1, .int .u64 1, .slice MA 3 mc, .slice UA 3 uc] 100] :
    Calls Try.prog 105 #[.agg #[.int .i64 6, .int .u64 1], .pointer (some ⟨by_, 0, none⟩), .pointer (some ⟨bl, 0, none⟩), .pointer (some ⟨bs, 0, none⟩), .pointer (some ⟨bx, 0, none⟩)] w (RetB w true) := by
  have H := hide h
  have T2 := hide (fun W h => exSync2 MA mc UA uc MB nc UB ud A c l W h)
  have z1 := h1.lt
  have z2 := h2.lt
  have z3 := h3.lt
  have z4 := h4.lt
  haveI : LtN by_ w.heap.size := ⟨z1⟩
  haveI : LtN bl w.heap.size := ⟨z2⟩
  haveI : LtN bs w.heap.size := ⟨z3⟩
  haveI : LtN bx w.heap.size := ⟨z4⟩
  clear h
  go_enter Try.func105, Try.ntmps105
  go_wp2_with fail
  (with_reducible refine (T2.out _ (H.out.step blw)).mono ?_)
  rintro e w2 ⟨BA, bc, CA, cc, rfl, _, hb2⟩
  haveI : Stp _ w2 := ⟨hb2⟩
  have y2 := hb2.size
  simp at y2
  haveI : LtN by_ w2.heap.size := ⟨by omega⟩
  haveI : LtN bl w2.heap.size := ⟨by omega⟩
  haveI : LtN bs w2.heap.size := ⟨by omega⟩
  haveI : LtN bx w2.heap.size := ⟨by omega⟩
  haveI : LtN w.heap.size w2.heap.size := ⟨by omega⟩
  clear hb2
  go_wp2
  go_ret
  exact ⟨rfl, blw⟩
set_option maxRecDepth 100000 in
theorem exAlongF (MA : Option Addr) (mc : Nat) (UA : Option Addr) (uc : Nat) (MB : Option Addr) (nc : Nat) (UB : Option Addr) (ud : Nat) (A : Option Addr) (c : Nat) (l : List Lr) (w : World) :
    Calls Try.prog 74 #[.agg #[.int .u64 3, .int .i64 1, .int .u64 1, .slice MA 3 mc, .slice UA 3 uc], .agg #[.int .u64 4, .int .i64 1, .int .u64 1, .slice MB 2 nc, .slice UB 2 ud], .agg #[.int .i64 5, .int .u64 2], .slice A l.length c] w fun e w' => e = .returned (.func (.func 105) #[] #[.pointer (some ⟨w.heap.size + 1, 0, none⟩), .pointer (some ⟨w.heap.size + 1 + 1 + 1, 0, none⟩), .pointer (some ⟨w.heap.size + 1 + 1, 0, none⟩), .pointer (some ⟨w.heap.size, 0, none⟩)]) ∧ w' = (((w.alloc (.cells #[.int .u64 3, .int .i64 1, .int .u64 1, .slice MA 3 mc, .slice UA 3 uc] 100)).alloc (.cells #[.int .u64 4, .int .i64 1, .int .u64 1, .slice MB 2 nc, .slice UB 2 ud] 100)).alloc (.cells #[.int .i64 5, .int .u64 2] 25)).alloc (.cells #[.slice A l.length c] 22) := by
  go_enter Try.func74, Try.ntmps74
  go_wp2
  go_ret
  exact ⟨rfl, rfl⟩
end Go.Proofs.Ytmleeohaaipdcaa

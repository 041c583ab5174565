/-
  RoundOne: many.step: a proposal that was sent comes.
-/
import Derived.Test.YtkglclekieckoaaGreatMn6
import Derived.Test.YtkglclekieckoaaGreatMn4
namespace Go.Proofs.YtkglclekieckoaaGreat
set_option linter.unusedSimpArgs false
set_option linter.unusedVariables false
set_option linter.unusedSectionVars false
open Go.RowKit

structure AtQ (w : World) (b o : Nat) (x : Pp) : Prop where
  c0 : w.cell? ⟨b, o, none⟩ = some (.int .i64 x.n)
  c1 : w.cell? ⟨b, o + 1, none⟩ = some (.int .u64 x.i)
  c2 : w.cell? ⟨b, o + 1 + 1, none⟩ = some (.int .u64 x.rd)
  c3 : w.cell? ⟨b, o + 3, none⟩ = some (.slice x.SA x.ss.length x.sc)
  c4 : w.cell? ⟨b, o + 4, none⟩ = some (.slice x.CA x.cs.length x.cc)
  c5 : w.cell? ⟨b, o + 5, none⟩ = some (.slice x.UA x.us.length x.uc)
theorem Reads.atQ {w : World} {B : Nat} {A : Option Addr} {n k : Nat} {l : List Pp} (h : Reads w B 6 A n (pps l)) (hk : k < n) :
    ∃ b off x, A = some ⟨b, off, none⟩ ∧ b < B ∧ l[k]? = some x ∧ AtQ w b (off + k * 6) x := by
  obtain ⟨b, off, rfl, hb, hc⟩ := h.2 (by omega)
  have hl : k < l.length := by have := h.1; rw [pps_len] at this; omega
  have hp : l[k]? = some l[k] := List.getElem?_eq_getElem hl
  have key : ∀ j (hj : j < 6), w.cell? ⟨b, off + k * 6 + j, none⟩ = (l[k].cl)[j]? := by
    intro j hj
    have hx : (l[k].cl)[j]? = some ((l[k].cl)[j]'(by rw [Pp.cl_len]; exact hj)) := List.getElem?_eq_getElem _
    rw [Nat.add_assoc, hx]
    exact hc (k * 6 + j) _ (by rw [pps, flat_get Pp.cl_len l k j _ hp hj, hx])
  exact ⟨b, off, l[k], rfl, hb, hp, key 0 (by omega), key 1 (by omega), key 2 (by omega), key 3 (by omega), key 4 (by omega), key 5 (by omega)⟩
instance (priority := low) CellAt.rowNe (W : World) (b i m : Nat) (cs : Array Value) (v : Value) [k : CellAt W b i v] [e : NeN b m] : CellAt (W.setRow m cs) b i v := ⟨by rw [setRow_size]; exact k.lt, by
  have := k.h
  unfold World.cell? at this ⊢
  rw [setRow_other _ _ _ _ e.h]
  exact this⟩
set_option maxRecDepth 100000 in
set_option maxHeartbeats 16000000 in
set_option synthInstance.maxSize 1000 in
theorem step18_t (n : Nat) (C : List Nat) (aa : Nat → Ag) (inc cc : Nat → Int) (SA : Option Addr) (sc : Nat) (S : List Pp) (VA : Option Addr) (vc : Nat) (V : List Vw) (sw swho swh sset scl : Int) (w : World)
    (h : MW w C n aa inc cc SA sc S VA vc V) (hO : OneS aa inc cc S V) (hS : S.length ≤ 500) (hV : V.length ≤ 500) (b1 : -9223372036854775808 ≤ sw ∧ sw ≤ 9223372036854775807) (b2 : -9223372036854775808 ≤ swho ∧ swho ≤ 9223372036854775807) (b3 : -9223372036854775808 ≤ swh ∧ swh ≤ 9223372036854775807) (hk0 : atI sw 5 ≠ 0) (hk4 : atI sw 5 ≠ 4) :
    Calls Tryz.prog 19 #[.pointer (some ⟨n, 0, none⟩), .agg #[.int .i64 sw, .int .i64 swho, .int .i64 swh, .int .i64 sset, .int .i64 scl]] w (RetSt w C n aa inc cc S V) := by
  haveI hbn := h.bx
  have hn := h.bx.lt
  haveI : LtN n w.heap.size := ⟨hn⟩
  have HW := hide h
  have HO := hide hO
  have TA4 := hide (fun W => (by exact at18_e swho 4 W (by omega) (by omega) b2 : Calls Tryz.prog 25 #[.int .i64 swho, .int .i64 4] W (fun e w' => e = .returned (.int .i64 (atI swho 4)) ∧ w' = W)))
  have TA5 := hide (fun W => (by exact at18_e sw 5 W (by omega) (by omega) b1 : Calls Tryz.prog 25 #[.int .i64 sw, .int .i64 5] W (fun e w' => e = .returned (.int .i64 (atI sw 5)) ∧ w' = W)))
  have TAS := hide (fun W (h0 : 0 < S.length) => (by exact at18_e swh S.length W h0 (by omega) b3 : Calls Tryz.prog 25 #[.int .i64 swh, .int .i64 S.length] W (fun e w' => e = .returned (.int .i64 (atI swh S.length)) ∧ w' = W)))
  have hw := atI_lt swho 4 (by omega)
  generalize atI swho 4 = who at hw TA4
  generalize atI sw 5 = kd at hk0 hk4 TA5
  have d0 : ((kd : Int) == 0) = false := by rw [beq_eq_false_iff_ne]; omega
  have d4 : ((kd : Int) == 4) = false := by rw [beq_eq_false_iff_ne]; omega
  have i0 : (0 : Int) ≤ (who : Int) := by omega
  have i1 : (who : Int) < 4 := by omega
  have HS := hide hS
  have HV := hide hV
  clear h hO b1 b2 b3 hS hV hk0 hk4
  have hC : ∀ i ∈ C, i < w.heap.size := HW.out.lt
  have TCP := hide (fun (x : Pp) (hx : x ∈ S) W (hb : Below w.heap.size w W) => refPCopyQ_s x W (@PpO.ok (avo C) W [] x ((HW.out.sp x hx).over (.bel hb))))
  have TTK := hide (fun (x : Pp) (hx : x ∈ S) (A1 : Option Addr) (c1 : Nat) (A2 : Option Addr) (c2 : Nat) (A3 : Option Addr) (c3 : Nat) W (hb : Below w.heap.size w W) (h1 : W.ownsRow w.heap.size 25 2 (.slice A1 x.ss.length c1) x.ss.length (pcs x.ss)) (h2 : W.ownsRow w.heap.size 25 2 (.slice A2 x.cs.length c2) x.cs.length (pcs x.cs)) (h3 : W.ownsRow w.heap.size 22 1 (.slice A3 x.us.length c3) x.us.length (ucs x.us)) =>
    (by
      have hlt : ∀ i ∈ C, i < W.heap.size := fun i hi => Nat.lt_of_lt_of_le (hC i hi) hb.size
      have hmx : x.br ∈ S.map Pp.br := List.mem_map.2 ⟨x, hx, rfl⟩
      obtain ⟨o1, o2, _⟩ := HO.out.st.ok x.br hmx
      obtain ⟨_, g2, _, g4, _, g6⟩ := HW.out.sp x hx
      refine (take18_s (DFb C w.heap.size W) (aa who) ⟨x.n, x.i, x.rd, A1, c1, x.ss, A2, c2, x.cs, A3, c3, x.us⟩ W ((HW.out.ag who hw).over (DFb.tr hb)) (DFb.lt hlt) (HO.out.srv who hw).inv (@PpO.mk (avo (DFb C w.heap.size W)) W [] _ (DFb.row h1 hC rfl) g2 (DFb.row h2 hC rfl) g4 (DFb.row h3 hC rfl) g6) ⟨o2.rg, o2.wf⟩).mono ?_
      rintro e w' ⟨b, u, q1, q2, q3, q4, q5, q6⟩
      have hT : TOk (S.map Pp.br) (ofN cc) who (aa who).br b.br u.br := by
        rw [q1, q2]
        have e : takeP (aa who).br (⟨x.n, x.i, x.rd, A1, c1, x.ss, A2, c2, x.cs, A3, c3, x.us⟩ : Pp) = takeP (aa who).br x.br := rfl
        rw [e]
        exact (HO.out.srv who hw).take HO.out.st hmx
      have hMB : MBx aa cc S b u := fun B hB hb => by
        have e : takeP (aa who).br (⟨x.n, x.i, x.rd, A1, c1, x.ss, A2, c2, x.cs, A3, c3, x.us⟩ : Pp) = takeP (aa who).br x.br := rfl
        rw [q1, q2, e]
        refine (HO.out.srv who hw).take_mb HO.out.st (fun g hg => ?_) (hB.mb hw) hB.b0 hb hmx
        obtain ⟨g', hg', rfl⟩ := List.mem_map.1 hg
        exact hB.sn g' hg'
      exact ⟨DFb C w.heap.size W, b, u, fun m cs hm hmb => ⟨DFb.ag hmb hm⟩, fun m cs hm hmb => ⟨DFb.tu hmb hm⟩, fun i hi => mem_DF.2 (.inl hi), hT, hMB, q3, q4, q5, q6⟩ : Calls Tryz.prog 14 #[(aa who).v, .agg #[.int .i64 x.n, .int .u64 x.i, .int .u64 x.rd, .slice A1 x.ss.length c1, .slice A2 x.cs.length c2, .slice A3 x.us.length c3]] W (fun e w' => ∃ (D : List Nat) (b : Ag) (u : Tu), (∀ m cs, w.heap.size ≤ m → BoxAt W m cs 38 → InL m D) ∧ (∀ m cs, w.heap.size ≤ m → BoxAt W m cs 43 → InL m D) ∧ (∀ i ∈ C, i ∈ D) ∧ TOk (S.map Pp.br) (ofN cc) who (aa who).br b.br u.br ∧ MBx aa cc S b u ∧ e = .returned (.tuple #[b.v, u.v]) ∧ @Ag.Ok (avo D) w' b ∧ @Tu.Ok (avo D) w' u ∧ Below W.heap.size W w')))
  go_enter Tryz.func19, Tryz.ntmps19
  go_wp2_with fail
  (with_reducible refine (TA4.out _).mono ?_)
  rintro e w2 ⟨rfl, rfl⟩
  go_wp2_with fail
  (with_reducible refine (TA5.out _).mono ?_)
  rintro e w2 ⟨rfl, rfl⟩
  by_cases hs0 : S.length = 0
  · have d9 : ((S.length : Int) == 0) = true := by rw [hs0]; rfl
    clear hs0
    go_wp2_with fail
    go_ret
    exact ⟨C, aa, inc, cc, SA, sc, S, VA, vc, V, rfl, HW.out.below blw, HO.out, by omega, by omega, (fun k hk => by omega), Tr.bel blw, fun B hB hb => hB.mono (by omega)⟩
  · have d9 : ((S.length : Int) == 0) = false := by rw [beq_eq_false_iff_ne]; omega
    have hpos : 0 < S.length := by omega
    have TAS := hide (fun W => TAS.out W hpos)
    have hkk := atI_lt swh S.length hpos
    generalize atI swh S.length = k at hkk TAS
    obtain ⟨b0, off, x, hA, hb0, hxk, v0, v1, v2, v3, v4, v5⟩ := Reads.atQ (Reads.of_own HW.out.so) hkk
    subst hA
    have hx : x ∈ S := List.mem_of_getElem? hxk
    haveI : LtN b0 w.heap.size := ⟨hb0⟩
    haveI : CellAt w b0 (off + k * 6) (.int .i64 x.n) := ⟨hb0, v0⟩
    haveI : CellAt w b0 (off + k * 6 + 1) (.int .u64 x.i) := ⟨hb0, v1⟩
    haveI : CellAt w b0 (off + k * 6 + 1 + 1) (.int .u64 x.rd) := ⟨hb0, v2⟩
    haveI : CellAt w b0 (off + k * 6 + 3) (.slice x.SA x.ss.length x.sc) := ⟨hb0, v3⟩
    haveI : CellAt w b0 (off + k * 6 + 4) (.slice x.CA x.cs.length x.cc) := ⟨hb0, v4⟩
    haveI : CellAt w b0 (off + k * 6 + 5) (.slice x.UA x.us.length x.uc) := ⟨hb0, v5⟩
    have j0 : (0 : Int) ≤ (k : Int) := by omega
    have j1 : (k : Int) < (S.length : Int) := by omega
    have HX := hide hx
    have TCX := hide (fun W (hb : Below w.heap.size w W) => TCP.out x hx W hb)
    have TTX := hide (fun (A1 : Option Addr) (c1 : Nat) (A2 : Option Addr) (c2 : Nat) (A3 : Option Addr) (c3 : Nat) W (hb : Below w.heap.size w W) h1 h2 h3 => TTK.out x hx A1 c1 A2 c2 A3 c3 W hb h1 h2 h3)
    clear TCP TTK hxk v0 v1 v2 v3 v4 v5 hs0 hpos hx hC
    go_upto_region 12 with fail
    go_cut [8, 9] (fun s8 s9 wx => ∃ (n6 n7 : Nat) (b : Ag) (u : Tu), s8 = .pointer (some ⟨n6, 0, none⟩) ∧ s9 = .pointer (some ⟨n7, 0, none⟩) ∧ BoxAt wx n6 b.cs 38 ∧ BoxAt wx n7 u.cs 43 ∧ TOk (S.map Pp.br) (ofN cc) who (aa who).br b.br u.br ∧ MBx aa cc S b u ∧ @Ag.Ok (avo C) wx b ∧ @Tu.Ok (avo C) wx u ∧ Below w.heap.size w wx)
    case first =>
      go_region_held3 (fun w' => (ldAg ⟨n, who * 14, none⟩).run Tryz.prog w' = .ok (.agg (aa who).cs) w' ∧ w'.cell? ⟨w.heap.size, 2, none⟩ = some (.int .i64 swh) ∧ w'.cell? ⟨n, 71, none⟩ = some (.slice (some ⟨b0, off, none⟩) S.length sc) ∧ w'.cell? ⟨b0, off + k * 6, none⟩ = some (.int .i64 x.n) ∧ w'.cell? ⟨b0, off + k * 6 + 1, none⟩ = some (.int .u64 x.i) ∧ w'.cell? ⟨b0, off + k * 6 + 1 + 1, none⟩ = some (.int .u64 x.rd) ∧ w'.cell? ⟨b0, off + k * 6 + 3, none⟩ = some (.slice x.SA x.ss.length x.sc) ∧ w'.cell? ⟨b0, off + k * 6 + 4, none⟩ = some (.slice x.CA x.cs.length x.cc) ∧ w'.cell? ⟨b0, off + k * 6 + 5, none⟩ = some (.slice x.UA x.us.length x.uc)) ((refine ⟨?_, ?_, ?_, ?_, ?_, ?_, ?_, ?_, ?_⟩ <;> (first | exact ldAg_many _ n aa inc cc _ _ _ who hw | exact cell?_ca _ _ _ _ | (rw [cell?_box]; rfl))))
        (first
          | (go_at_call 25; (with_reducible refine (TAS.out _).mono ?_); rintro e w3 ⟨rfl, rfl⟩)
          | (go_at_call 26; (with_reducible refine (TCX.out _ ?_).mono ?_); (focus (exact blw)); rintro e w4 ⟨A1, c1, A2, c2, A3, c3, rfl, ho1, ho2, ho3, hb4⟩; have O1 := hide (own_base ho1 (blw (a := w)).size); have O2 := hide (own_base ho2 (blw (a := w)).size); have O3 := hide (own_base ho3 (blw (a := w)).size); haveI : Stp _ w4 := ⟨hb4⟩; haveI : LtN b0 w4.heap.size := ⟨Nat.lt_of_lt_of_le hb0 (blw (a := w) (W := w4)).size⟩; haveI : LtN n w4.heap.size := ⟨BoxAt.lt (n := n) (w := w4) inferInstance⟩; haveI : LtN w.heap.size w4.heap.size := ⟨BoxAt.lt (n := w.heap.size) (w := w4) inferInstance⟩; haveI : LeN w.heap.size w4.heap.size := ⟨Nat.le_of_lt (LtN.h)⟩; (try have : LtN (w.heap.size + 1) w4.heap.size := ⟨BoxAt.lt (n := w.heap.size + 1) (w := w4) inferInstance⟩); (try have : LtN (w.heap.size + 1 + 1) w4.heap.size := ⟨BoxAt.lt (n := w.heap.size + 1 + 1) (w := w4) inferInstance⟩); clear ho1 ho2 ho3 hb4)
          | (go_at_call 14; (with_reducible refine (TTX.out A1 c1 A2 c2 A3 c3 _ ?_ ?_ ?_ ?_).mono ?_); (focus (exact blw)); (focus (exact own_tc O1.out)); (focus (exact own_tc O2.out)); (focus (exact own_tc O3.out)); rintro e w5 ⟨D, b, u, hD1, hD2, hD3, hT, hmb, rfl, hbo, huo, hb5⟩; haveI : Stp _ w5 := ⟨hb5⟩; haveI : LtN b0 w5.heap.size := ⟨Nat.lt_of_lt_of_le hb0 (blw (a := w) (W := w5)).size⟩; haveI : LtN n w5.heap.size := ⟨BoxAt.lt (n := n) (w := w5) inferInstance⟩; haveI : LtN w.heap.size w5.heap.size := ⟨BoxAt.lt (n := w.heap.size) (w := w5) inferInstance⟩; haveI : LeN w.heap.size w5.heap.size := ⟨Nat.le_of_lt (LtN.h)⟩; (try have : LtN (w.heap.size + 1) w5.heap.size := ⟨BoxAt.lt (n := w.heap.size + 1) (w := w5) inferInstance⟩); (try have : LtN (w.heap.size + 1 + 1) w5.heap.size := ⟨BoxAt.lt (n := w.heap.size + 1 + 1) (w := w5) inferInstance⟩); (try have : LtN (w4.heap.size) w5.heap.size := ⟨BoxAt.lt (n := w4.heap.size) (w := w5) inferInstance⟩); (try have : LtN (w4.heap.size + 1) w5.heap.size := ⟨BoxAt.lt (n := w4.heap.size + 1) (w := w5) inferInstance⟩); (try have : InL (w.heap.size + 1) D := hD1 _ _ (LeN.h) inferInstance); (try have : InL (w.heap.size + 1) D := hD2 _ _ (LeN.h) inferInstance); (try have : InL (w.heap.size + 1 + 1) D := hD1 _ _ (LeN.h) inferInstance); (try have : InL (w.heap.size + 1 + 1) D := hD2 _ _ (LeN.h) inferInstance); (try have : InL (w4.heap.size) D := hD1 _ _ (LeN.h) inferInstance); (try have : InL (w4.heap.size) D := hD2 _ _ (LeN.h) inferInstance); (try have : InL (w4.heap.size + 1) D := hD1 _ _ (LeN.h) inferInstance); (try have : InL (w4.heap.size + 1) D := hD2 _ _ (LeN.h) inferInstance); have HT := hide hT; have HMB := hide hmb; have HBO := hide hbo; have HUO := hide huo; have HD := hide hD3; clear hT hmb hbo huo hb5 hD1 hD2 hD3)
          | fail)
      all_goals
        go_wp2_with fail
        go_meet
        case rel => exact ⟨_, _, b, u, rfl, rfl, inferInstance, inferInstance, HT.out, HMB.out, HBO.out.over ((Trc.h (C := D) (a := w5)).re (fun i hi => .inl (HD.out i hi))), HUO.out.over ((Trc.h (C := D) (a := w5)).re (fun i hi => .inl (HD.out i hi))), blw⟩
    case rest =>
      obtain ⟨n6, n7, b, u, rfl, rfl, hb6, hb7, hT, hmb, hbo, huo, hbl⟩ := hcut
      haveI := hb6
      haveI := hb7
      have TT := hide (turned18_s n C aa inc cc (some ⟨b0, off, none⟩) sc S VA vc V who b u wc (HW.out.below hbl) hw hbo huo (S.map Pp.br) hT (by have := HS.out; omega) (by have := HV.out; omega) (HO.out.one hw hT))
      have HT := hide hT
      have HMB := hide hmb
      have HBL := hide hbl
      clear hbo huo hbl hT hmb
      go_wp2_with fail
      (with_reducible refine (TT.out).mono ?_)
      rintro e w' ⟨C', SA', sc', VA', vc', rfl, hM, hT'⟩
      go_wp2_with fail
      go_ret
      exact ⟨C', updN aa who b, inc, cidsN cc u.ts, SA', sc', _, VA', vc', _, rfl, hM, HO.out.turned hw HT.out, (by split <;> simp), (by split <;> simp), (fun k hk => by omega), (Tr.bel HBL.out).trans hT', fun B hB hb => hB.turned HO.out hw HT.out (HMB.out B hB hb) (by omega)⟩
end Go.Proofs.YtkglclekieckoaaGreat

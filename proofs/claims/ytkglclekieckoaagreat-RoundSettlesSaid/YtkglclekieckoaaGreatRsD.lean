/-
  RoundSettles: its last part: are they one?
-/
import Derived.Test.YtkglclekieckoaaGreatCf
import Derived.Test.YtkglclekieckoaaGreatRi
import Derived.IntWalk
import Derived.ChangeKeysEq
import Derived.Test.YtkglclekieckoaaGreatMn6
namespace Go.Proofs.YtkglclekieckoaaGreat
set_option linter.unusedSimpArgs false
set_option linter.unusedVariables false
set_option linter.unusedSectionVars false
open Go.RowKit

theorem frameRs {T : Array Value} (h : T.size = 178) : ∃ f : Nat → Value, (∀ j v, T[j]? = some v → f j = v) ∧ T = #[f 0, f 1, f 2, f 3, f 4, f 5, f 6, f 7, f 8, f 9, f 10, f 11, f 12, f 13, f 14, f 15, f 16, f 17, f 18, f 19, f 20, f 21, f 22, f 23, f 24, f 25, f 26, f 27, f 28, f 29, f 30, f 31, f 32, f 33, f 34, f 35, f 36, f 37, f 38, f 39, f 40, f 41, f 42, f 43, f 44, f 45, f 46, f 47, f 48, f 49, f 50, f 51, f 52, f 53, f 54, f 55, f 56, f 57, f 58, f 59, f 60, f 61, f 62, f 63, f 64, f 65, f 66, f 67, f 68, f 69, f 70, f 71, f 72, f 73, f 74, f 75, f 76, f 77, f 78, f 79, f 80, f 81, f 82, f 83, f 84, f 85, f 86, f 87, f 88, f 89, f 90, f 91, f 92, f 93, f 94, f 95, f 96, f 97, f 98, f 99, f 100, f 101, f 102, f 103, f 104, f 105, f 106, f 107, f 108, f 109, f 110, f 111, f 112, f 113, f 114, f 115, f 116, f 117, f 118, f 119, f 120, f 121, f 122, f 123, f 124, f 125, f 126, f 127, f 128, f 129, f 130, f 131, f 132, f 133, f 134, f 135, f 136, f 137, f 138, f 139, f 140, f 141, f 142, f 143, f 144, f 145, f 146, f 147, f 148, f 149, f 150, f 151, f 152, f 153, f 154, f 155, f 156, f 157, f 158, f 159, f 160, f 161, f 162, f 163, f 164, f 165, f 166, f 167, f 168, f 169, f 170, f 171, f 172, f 173, f 174, f 175, f 176, f 177] := by
  obtain ⟨f, hf, hT⟩ := frame_lsf h
  exact ⟨f, hf, hT⟩
set_option maxRecDepth 100000 in
set_option maxHeartbeats 8000000 in
theorem rs_end (w W : World) (n : Nat) (aa : Nat → Ag) (inc cc : Nat → Int) (S V : Value) (OA : Option Addr) (oc : Nat) (O : List Nat) (bits rd : Int) (v : Vw) (T : Array Value) (hz : T.size = 178)
    (h2 : T[2]? = some (.int .i64 bits)) (h9 : T[9]? = some (.pointer (some ⟨n, 0, none⟩))) (h11 : T[11]? = some (.slice OA O.length oc))
    (hb : BoxAt W n (mcs aa inc cc S V) 77) (hO : Reads W W.heap.size 1 OA O.length (ics (onL O))) (h4 : O.length ≤ 4) (hv : ∀ k ∈ O, (aa k).vw.Ok W) (ho : OneOk (bitQ bits) O aa rd v) (hB : Below w.heap.size w W) :
    Code.wp Tryz.prog (cdP [true, true, true, true, true, true, true, true, true] (Tryz.f6.body.getD .skip)) (bodyPost Tryz.prog Tryz.f6 (RetB w true)) ⟨T, []⟩ W := by
  obtain ⟨f, hf, hT⟩ := frameRs hz
  rw [hT, hf 2 _ h2, hf 9 _ h9, hf 11 _ h11]
  clear hf hT h2 h9 h11 hz T
  conv => arg 2; dsimp only [cdP, Tryz.f6, Option.getD]
  have TO := hide (one18_s n aa inc cc S V OA oc O bits rd v W hb hO h4 hv ho)
  have TA := hide (fun W => awake18_t W)
  have HB := hide hB
  clear hb hO hv ho hB
  go_wp2_with (first
    | (go_at_call 27; (with_reducible refine (TO.out).mono ?_); rintro e w3 ⟨rfl, hb3⟩; haveI : Stp _ w3 := ⟨hb3⟩; have HB3 := hide (below_step HB.out hb3); clear hb3)
    | (go_at_call 7; (with_reducible refine (TA.out _).mono ?_); rintro e w4 ⟨rfl, hb4⟩; have HB4 := hide (below_step HB3.out hb4); clear hb4))
  go_ret
  exact ⟨rfl, HB4.out⟩
end Go.Proofs.YtkglclekieckoaaGreat

namespace Go.Proofs.YtkglclekieckoaaGreat
set_option linter.unusedSimpArgs false
set_option linter.unusedVariables false
set_option linter.unusedSectionVars false
open Go.RowKit

theorem own_emptyW (w : World) (m : Nat) (hm : m = w.heap.size) : (w.alloc (.cells #[] 84)).ownsRow m 84 7 (.slice (some ⟨m, 0, none⟩) 0 0) 0 [] := by
  subst hm
  exact World.ownsRow_lit (base := w.heap.size) (e := 84) (size := 7) w #[] 0 (Nat.le_refl _) (by unfold maxLen; omega) rfl
theorem Tryz.sliceWq (WA : Option Addr) (n c lo : Nat) (hlo : lo ≤ n) (W : World) : (Instr.slice 71 (.slice WA n c) (some (.int .i64 (lo : Int))) none none).run Tryz.prog W = .ok (.slice (if c = lo then WA else WA.map (·.add (lo * 7))) (n - lo) (c - lo)) W := by
  rw [run_slice_l W 71 WA n c (by kernel_rfl) .i64 (lo : Int) (by omega) (by omega)]
  have hs : (sizeOf (Tryz.prog.elem 71)).run Tryz.prog W = .ok 7 W := by
    have e : Tryz.prog.elem 71 = 84 := by kernel_rfl
    have h7 : Tryz.prog.cellsOf 84 = 7 := by kernel_rfl
    have hi : (Tryz.prog.info? 84).isSome = true := by kernel_rfl
    obtain ⟨ti, hti⟩ := Option.isSome_iff_exists.1 hi
    rw [e, run_sizeOf _ hti, h7]
  rw [hs]
  simp [Result.andThen, sliced]
theorem Tryz.sliceWh (WA : Option Addr) (n c hi : Nat) (hh : hi ≤ c) (W : World) : (Instr.slice 71 (.slice WA n c) none (some (.int .i64 (hi : Int))) none).run Tryz.prog W = .ok (.slice (if c = 0 then WA else WA.map (·.add (0 * 7))) hi c) W := by
  rw [run_slice_h W 71 WA n c (by kernel_rfl) .i64 (hi : Int) (by omega) (by omega)]
  have hs : (sizeOf (Tryz.prog.elem 71)).run Tryz.prog W = .ok 7 W := by
    have e : Tryz.prog.elem 71 = 84 := by kernel_rfl
    have h7 : Tryz.prog.cellsOf 84 = 7 := by kernel_rfl
    have hi : (Tryz.prog.info? 84).isSome = true := by kernel_rfl
    obtain ⟨ti, hti⟩ := Option.isSome_iff_exists.1 hi
    rw [e, run_sizeOf _ hti, h7]
  rw [hs]
  simp [Result.andThen, sliced]
theorem Reads.takeW {w : World} {B : Nat} {A : Option Addr} {l : List Wq} {c i : Nat} (h : Reads w B 7 A l.length (wqs l)) (hi : i ≤ l.length) : Reads w B 7 (if c = 0 then A else A.map (·.add (0 * 7))) i (wqs (l.take i)) := by
  have e : (if c = 0 then A else A.map (·.add (0 * 7))) = A := by
    split
    · rfl
    · cases A <;> simp [Addr.add]
  rw [e]
  refine ⟨by rw [wqs_len, List.length_take]; omega, fun h0 => ?_⟩
  obtain ⟨b, off, rfl, hb, hc⟩ := h.2 (by omega)
  refine ⟨b, off, rfl, hb, fun j u hu => hc j u ?_⟩
  have h1 : wqs l = wqs (l.take i) ++ wqs (l.drop i) := by rw [← wqs_app, List.take_append_drop]
  rw [h1, List.getElem?_append_left (List.getElem?_eq_some_iff.1 hu).1]
  exact hu
theorem Reads.dropW {w : World} {B : Nat} {A : Option Addr} {l : List Wq} {c lo : Nat} (h : Reads w B 7 A l.length (wqs l)) (hlo : lo ≤ l.length) (hc : l.length ≤ c) : Reads w B 7 (if c = lo then A else A.map (·.add (lo * 7))) (l.length - lo) (wqs (l.drop lo)) := by
  refine ⟨by rw [wqs_len, List.length_drop], fun h0 => ?_⟩
  obtain ⟨b, off, rfl, hb, hcell⟩ := h.2 (by omega)
  rw [if_neg (by omega)]
  refine ⟨b, off + lo * 7, by simp [Addr.add], hb, fun j u hu => ?_⟩
  have h1 : wqs l = wqs (l.take lo) ++ wqs (l.drop lo) := by rw [← wqs_app, List.take_append_drop]
  have h2 : (wqs (l.take lo)).length = lo * 7 := by rw [wqs_len, List.length_take]; congr 1; omega
  rw [Nat.add_assoc]
  refine hcell (lo * 7 + j) u ?_
  rw [h1, List.getElem?_append_right (by omega), h2, Nat.add_sub_cancel_left]
  exact hu
set_option maxRecDepth 100000 in
set_option maxHeartbeats 8000000 in
theorem rs_34 (Q : Exit → Act → World → Prop) (W : World) (base : Nat) (WA : Option Addr) (wc : Nat) (l : List Wq) (i : Nat) (T : Array Value) (hz : T.size = 178) (h13 : T[13]? = some (.slice WA l.length wc)) (h19 : T[19]? = some (.int .i64 i))
    (ho : W.ownsRow base 84 7 (.slice WA l.length wc) l.length (wqs l)) (hi : i < l.length) (hl : l.length ≤ 1000)
    (hq : ∀ (T' : Array Value) (W' : World) (B : Option Addr) (d : Nat), T'.size = 178 → (∀ j ∈ [1, 2, 3, 9, 11, 18, 20], T'[j]? = T[j]?) → T'[13]? = some (.slice B (l.take i ++ l.drop (i + 1)).length d) → W'.ownsRow W.heap.size 84 7 (.slice B (l.take i ++ l.drop (i + 1)).length d) (l.take i ++ l.drop (i + 1)).length (wqs (l.take i ++ l.drop (i + 1))) → Below W.heap.size W W' → Q .normal ⟨T', []⟩ W') :
    Code.wp Tryz.prog (cdP [true, true, true, true, true, true, true, true, false, true, false, false, true, false, false, true, true, true, true, false] (Tryz.f6.body.getD .skip)) Q ⟨T, []⟩ W := by
  obtain ⟨f, hf, hT⟩ := frameRs hz
  have HQ := hide hq
  have HO := hide ho
  have HF := hide hf
  have hcap := own_slice ho
  subst hT
  have e13 := hf 13 _ h13
  have e19 := hf 19 _ h19
  have HE13 := hide e13
  have HE19 := hide e19
  have j0 : (0 : Int) ≤ (i : Int) := by omega
  have j1 : (i : Int) < (l.length : Int) := by omega
  obtain ⟨A0, c0, ee, hc1, hc2⟩ := hcap
  injection ee with e1 e2 e3
  subst e1 e3
  have j2 : (i : Int) ≤ (wc : Int) := by omega
  have j3 : (i : Int) + 1 ≤ (l.length : Int) := by omega
  have j4 : (0 : Int) ≤ (i : Int) + 1 := by omega
  have j5 : (l.length : Int) ≤ (wc : Int) := by omega
  rw [e13, e19]
  clear hq ho h13 h19 hz hf e13 e19
  obtain ⟨A2, hA2⟩ : ∃ A2 : Option Addr, A2 = (if wc = i + 1 then WA else WA.map (·.add ((i + 1) * 7))) := ⟨_, rfl⟩
  obtain ⟨A1, hA1⟩ : ∃ A1 : Option Addr, A1 = (if wc = 0 then WA else WA.map (·.add (0 * 7))) := ⟨_, rfl⟩
  have hs2 : ∀ W, (Instr.slice 71 (.slice WA l.length wc) (some (.int .i64 ((i : Int) + 1))) none none).run Tryz.prog W = .ok (.slice A2 (l.length - (i + 1)) (wc - (i + 1))) W := fun W => by
    have := Tryz.sliceWq WA l.length wc (i + 1) (by omega) W
    rw [← hA2] at this
    exact this
  have hs1 : ∀ W, (Instr.slice 71 (.slice WA l.length wc) none (some (.int .i64 (i : Int))) none).run Tryz.prog W = .ok (.slice A1 i wc) W := fun W => by
    have := Tryz.sliceWh WA l.length wc i (by omega) W
    rw [← hA1] at this
    exact this
  have hw1 : IntKind.i64.wrap ((i : Int) + 1) = (i : Int) + 1 := IntWalk.i64_in _ (by omega)
  haveI : Src W A1 i 7 (wqs (l.take i)) := ⟨by rw [hA1]; exact (Reads.of_own HO.out).takeW (by omega)⟩
  haveI : Src W A2 (l.length - (i + 1)) 7 (wqs (l.drop (i + 1))) := ⟨by rw [hA2]; exact (Reads.of_own HO.out).dropW (by omega) (by omega)⟩
  have HA1 := hide hA1
  have HA2 := hide hA2
  clear hA1 hA2
  conv => arg 2; dsimp only [cdP, Tryz.f6, Option.getD]
  go_region_held3 (fun _ => True) (trivial)
    (first
      | (refine step_append_x Tryz.okWq rfl (.tmp 131) (.tmp 134) rfl W.heap.size (.slice (some ⟨W.heap.size, 0, none⟩) 0 0) 0 [] i (wqs (l.take i)) ?_ ?_ ?_ ?_ ?_ ?_ ?_ ?_; go_must ((focus (first | rfl | (simp [Act.eval, Act.put]; done))); (focus (exact own_emptyW _ _ (by simp))); (focus (refine ⟨_, _, by first | rfl | (simp [Act.eval, Act.put]; done), ?_⟩; exact src)); (focus (exact wqs_one _)); (focus (unfold maxLen; omega)); (focus omega); (focus (first | omega | (simp; done) | (simp; omega) | exact blw.size | exact BoxAt.lt (n := w.heap.size) inferInstance)); intro v1 w1 ho1 hg1 ha1; rw [Nat.zero_add, List.nil_append] at ho1; haveI : StpB W.heap.size _ w1 := ⟨grown_belowB hg1 (by simp) (fun k hk => by have e : W.heap.size = k := Option.some.inj hk; omega)⟩; obtain ⟨B1, d1, rfl, _, _⟩ := own_slice ho1; have O1 := hide ho1; clear ho1 hg1 ha1))
      | (refine step_append_x Tryz.okWq rfl (.tmp 135) (.tmp 139) rfl W.heap.size (.slice B1 i d1) i (wqs (l.take i)) (l.length - (i + 1)) (wqs (l.drop (i + 1))) ?_ ?_ ?_ ?_ ?_ ?_ ?_ ?_; go_must ((focus (first | rfl | (simp [Act.eval, Act.put]; done))); (focus (exact own_tc O1.out)); (focus (refine ⟨_, _, by first | rfl | (simp [Act.eval, Act.put]; done), ?_⟩; exact src)); (focus (exact wqs_one _)); (focus (unfold maxLen; omega)); (focus omega); (focus (first | omega | (simp; done) | (simp; omega) | exact blw.size | exact BoxAt.lt (n := w.heap.size) inferInstance)); intro v2 w2 ho2 hg2 ha2; haveI : StpB W.heap.size _ w2 := ⟨grown_belowT hg2 (blw (a := W)).size (fun k hk => (O1.out.lt k hk).1)⟩; obtain ⟨B2, d2, rfl, _, _⟩ := own_slice ho2; have O2 := hide ho2; clear ho2 hg2 ha2))
      | fail)
  all_goals
    have hL : (l.take i ++ l.drop (i + 1)).length = i + (l.length - (i + 1)) := by
      rw [List.length_append, List.length_take, List.length_drop]; omega
    refine HQ.out _ _ B2 d2 (by rfl) (by intro j hj; simp at hj; rcases hj with rfl | rfl | rfl | rfl | rfl | rfl | rfl <;> rfl) ?_ ?_ blw
    · rw [hL]; rfl
    · rw [hL, wqs_app]; exact O2.out
end Go.Proofs.YtkglclekieckoaaGreat

namespace Go.Proofs.YtkglclekieckoaaGreat
set_option linter.unusedSimpArgs false
set_option linter.unusedVariables false
set_option linter.unusedSectionVars false
open Go.RowKit

structure Ms where
  C : List Nat
  aa : Nat → Ag
  inc : Nat → Int
  cc : Nat → Int
  SA : Option Addr
  sc : Nat
  S : List Pp
  VA : Option Addr
  vc : Nat
  V : List Vw
structure Wy where
  A : Option Addr
  c : Nat
  l : List Wq
def Wy.v (Y : Wy) : Value := .slice Y.A Y.l.length Y.c
def Wy.E (Y : Wy) : List Nat := Y.v.ownBlock.toList
structure WS (base : Nat) (W : World) (n : Nat) (M : Ms) (Y : Wy) (OA : Option Addr) (O : List Nat) : Prop where
  m : MWE W M.C Y.E n M.aa M.inc M.cc M.SA M.sc M.S M.VA M.vc M.V
  o : OneS M.aa M.inc M.cc M.S M.V
  way : W.ownsRow base 84 7 (.slice Y.A Y.l.length Y.c) Y.l.length (wqs Y.l)
  on : RO W (M.C ++ Y.E) 1 OA O.length (ics (onL O))
  pp : ∀ x ∈ Y.l, @PpO (avo (M.C ++ Y.E)) W [] x.pp
  br : ∀ x ∈ Y.l, x.pp.br ∈ M.S.map Pp.br
  ds : ∀ x ∈ Y.l, x.ds ∈ O
  cb : ∀ i ∈ M.C, base ≤ i
  bl : base ≤ W.heap.size
section
variable {base n : Nat} {X W : World} {M : Ms} {Y Y' : Wy} {OA : Option Addr} {O : List Nat}
theorem Wy.mem {Y : Wy} {i : Nat} (h : i ∈ Y.E) : Y.v.ownBlock = some i := by
  unfold Wy.E at h
  cases e : Y.v.ownBlock with
  | none => rw [e] at h; cases h
  | some b => rw [e] at h; rw [show i = b from by simpa using h]
theorem WS.le (h : WS base X n M Y OA O) : ∀ e ∈ Y.E, base ≤ e ∧ e < X.heap.size := fun e he => h.way.lt e (Wy.mem he)
theorem WS.below (h : WS base X n M Y OA O) (hb : Below X.heap.size X W) : WS base W n M Y OA O :=
  ⟨h.m.below hb, h.o, own_same h.way (fun i hi => hb.block i (h.way.lt i hi).2), h.on.tr (.bel hb), fun x hx => (h.pp x hx).over (.bel hb), h.br, h.ds, h.cb, Nat.le_trans h.bl hb.size⟩
/-- the row of those on their way is written -/
theorem WS.row (h : WS base X n M Y OA O) (ho : W.ownsRow base 84 7 (.slice Y'.A Y'.l.length Y'.c) Y'.l.length (wqs Y'.l)) (ht : Tr Y.E Y'.E X W) (hx : ∀ x ∈ Y'.l, (@PpO (avo (M.C ++ Y.E)) X [] x.pp) ∧ x.pp.br ∈ M.S.map Pp.br ∧ x.ds ∈ O) : WS base W n M Y' OA O := by
  have t2 : Tr (M.C ++ Y.E) (M.C ++ Y'.E) X W := ⟨ht.g.mono' (fun i hi => List.mem_append_right _ hi), fun i hi => by
    rcases List.mem_append.1 hi with h1 | h1
    · exact .inl (List.mem_append_left _ h1)
    · rcases ht.n i h1 with h2 | h2
      · exact .inl (List.mem_append_right _ h2)
      · exact .inr h2⟩
  exact ⟨h.m.grow ht.g (fun e he => ⟨ht.n e he, (ho.lt e (Wy.mem he)).2⟩), h.o, ho, h.on.tr t2, fun x hxl => (hx x hxl).1.over t2, fun x hxl => (hx x hxl).2.1, fun x hxl => (hx x hxl).2.2, h.cb, Nat.le_trans h.bl ht.g.size⟩
/-- a turn -/
def Ms.turned (M : Ms) (C' : List Nat) (SA' : Option Addr) (sc' : Nat) (VA' : Option Addr) (vc' : Nat) (who : Nat) (b : Ag) (u : Tu) : Ms := ⟨C', updN M.aa who b, M.inc, cidsN M.cc u.ts, SA', sc', if u.sd = true then M.S ++ [u.pp] else M.S, VA', vc', if u.md = true then M.V ++ [u.vw] else M.V⟩
theorem WS.turned {C' : List Nat} {SA' : Option Addr} {sc' : Nat} {VA' : Option Addr} {vc' : Nat} {who : Nat} {b : Ag} {u : Tu} (h : WS base X n M Y OA O) (hw : who < 4) (hT : TOk (M.S.map Pp.br) (ofN M.cc) who (M.aa who).br b.br u.br) (hb : @Ag.Ok (avo (M.C ++ Y.E)) X b) (hu : @Tu.Ok (avo (M.C ++ Y.E)) X u)
    (hM : MW W C' n (updN M.aa who b) M.inc (cidsN M.cc u.ts) SA' sc' (if u.sd = true then M.S ++ [u.pp] else M.S) VA' vc' (if u.md = true then M.V ++ [u.vw] else M.V)) (ht : Tr M.C C' X W) : WS base W n (M.turned C' SA' sc' VA' vc' who b u) Y OA O := by
  have t2 : Tr (M.C ++ Y.E) (C' ++ Y.E) X W := ht.av
  refine ⟨h.m.turned hM ht hb hu, h.o.turned hw hT, own_same h.way (fun i hi => ht.g.blk i (h.way.lt i hi).2 (fun hc => h.m.ne i (by unfold Wy.E; rw [show Y.v.ownBlock = some i from hi]; simp) hc)), h.on.tr t2, fun x hx => (h.pp x hx).over t2, fun x hx => ?_, h.ds, ht.ge h.cb h.bl, Nat.le_trans h.bl ht.g.size⟩
  show x.pp.br ∈ (if u.sd = true then M.S ++ [u.pp] else M.S).map Pp.br
  have := h.br x hx
  split
  · rw [List.map_append]; exact List.mem_append_left _ this
  · exact this
/-- what was sent goes to all but one -/
theorem WS.sent {C' : List Nat} {SA' : Option Addr} {sc' : Nat} {VA' : Option Addr} {vc' : Nat} {who : Nat} {b : Ag} {u : Tu} {B : Option Addr} {d : Nat} (h : WS base X n (M.turned C' SA' sc' VA' vc' who b u) Y OA O) (hs : u.sd = true)
    (ho : W.ownsRow base 84 7 (.slice B (Y.l ++ sentW O who u.pp).length d) (Y.l ++ sentW O who u.pp).length (wqs (Y.l ++ sentW O who u.pp))) (ht : Tr Y.E (Value.slice B (Y.l ++ sentW O who u.pp).length d).ownBlock.toList X W) : WS base W n (M.turned C' SA' sc' VA' vc' who b u) ⟨B, d, Y.l ++ sentW O who u.pp⟩ OA O := by
  have hm : u.pp ∈ (M.turned C' SA' sc' VA' vc' who b u).S := by
    show u.pp ∈ (if u.sd = true then M.S ++ [u.pp] else M.S)
    rw [if_pos hs]
    exact List.mem_append_right _ List.mem_cons_self
  refine h.row (Y' := ⟨B, d, Y.l ++ sentW O who u.pp⟩) ho ht fun x hx => ?_
  rcases List.mem_append.1 hx with hx | hx
  · exact ⟨h.pp x hx, h.br x hx, h.ds x hx⟩
  · unfold sentW at hx
    obtain ⟨t, hto, rfl⟩ := List.mem_map.1 hx
    exact ⟨h.m.sp u.pp hm, List.mem_map.2 ⟨_, hm, rfl⟩, (List.mem_filter.1 hto).1⟩
/-- one is taken off -/
theorem WS.drop {i : Nat} {B : Option Addr} {d : Nat} (h : WS base X n M Y OA O) (ho : W.ownsRow X.heap.size 84 7 (.slice B (Y.l.take i ++ Y.l.drop (i + 1)).length d) (Y.l.take i ++ Y.l.drop (i + 1)).length (wqs (Y.l.take i ++ Y.l.drop (i + 1)))) (hb : Below X.heap.size X W) : WS base W n M ⟨B, d, Y.l.take i ++ Y.l.drop (i + 1)⟩ OA O := by
  refine h.row (Y' := ⟨B, d, Y.l.take i ++ Y.l.drop (i + 1)⟩) (own_base ho h.bl) ?_ fun x hx => ?_
  · refine (Tr.bel hb).re fun j hj => .inr ?_
    exact (ho.lt j (Wy.mem hj)).1
  · have hx : x ∈ Y.l := by
      rcases List.mem_append.1 hx with hx | hx
      · exact List.mem_of_mem_take hx
      · exact List.mem_of_mem_drop hx
    exact ⟨h.pp x hx, h.br x hx, h.ds x hx⟩
end
end Go.Proofs.YtkglclekieckoaaGreat

namespace Go.Proofs.YtkglclekieckoaaGreat
set_option linter.unusedSimpArgs false
set_option linter.unusedVariables false
set_option linter.unusedSectionVars false
open Go.RowKit

def Wq.cs7 (x : Wq) : Array Value := #[.int .i64 x.ds, .int .i64 x.pp.n, .int .u64 x.pp.i, .int .u64 x.pp.rd, .slice x.pp.SA x.pp.ss.length x.pp.sc, .slice x.pp.CA x.pp.cs.length x.pp.cc, .slice x.pp.UA x.pp.us.length x.pp.uc]
set_option maxRecDepth 100000 in
set_option maxHeartbeats 8000000 in
theorem rs_33 (Q : Exit → Act → World → Prop) (W : World) (WA : Option Addr) (wc : Nat) (l : List Wq) (i : Nat) (T : Array Value) (hz : T.size = 178) (h13 : T[13]? = some (.slice WA l.length wc)) (h19 : T[19]? = some (.int .i64 i))
    (ho : Reads W W.heap.size 7 WA l.length (wqs l)) (hi : i < l.length)
    (hq : ∀ (T' : Array Value) (W' : World), T'.size = 178 → (∀ j ∈ [1, 2, 3, 9, 11, 13, 18, 19], T'[j]? = T[j]?) → T'[20]? = some (.pointer (some ⟨W.heap.size, 0, none⟩)) → BoxAt W' W.heap.size (l[i]).cs7 84 → Below W.heap.size W W' → Q .normal ⟨T', []⟩ W') :
    Code.wp Tryz.prog (cdP [true, true, true, true, true, true, true, true, false, true, false, false, true, false, false, true, true, true, false] (Tryz.f6.body.getD .skip)) Q ⟨T, []⟩ W := by
  obtain ⟨f, hf, hT⟩ := frameRs hz
  have HQ := hide hq
  subst hT
  have e13 := hf 13 _ h13
  have e19 := hf 19 _ h19
  obtain ⟨b, off, x, hA, hb, hx, v0, v1, v2, v3, v4, v5, v6⟩ := Reads.atWq ho hi
  subst hA
  have hxi : l[i] = x := by
    have := List.getElem?_eq_getElem hi
    rw [hx] at this
    injection this with this
    exact this.symm
  haveI : CellAt W b (off + i * 7) (.int .i64 x.ds) := ⟨hb, v0⟩
  haveI : CellAt W b (off + i * 7 + 1) (.int .i64 x.pp.n) := ⟨hb, v1⟩
  haveI : CellAt W b (off + i * 7 + 1 + 1) (.int .u64 x.pp.i) := ⟨hb, v2⟩
  haveI : CellAt W b (off + i * 7 + 1 + 2) (.int .u64 x.pp.rd) := ⟨hb, v3⟩
  haveI : CellAt W b (off + i * 7 + 1 + 3) (.slice x.pp.SA x.pp.ss.length x.pp.sc) := ⟨hb, v4⟩
  haveI : CellAt W b (off + i * 7 + 1 + 4) (.slice x.pp.CA x.pp.cs.length x.pp.cc) := ⟨hb, v5⟩
  haveI : CellAt W b (off + i * 7 + 1 + 5) (.slice x.pp.UA x.pp.us.length x.pp.uc) := ⟨hb, v6⟩
  haveI : InW b W := ⟨hb⟩
  rw [hxi] at HQ
  have j0 : (0 : Int) ≤ (i : Int) := by omega
  have j1 : (i : Int) < (l.length : Int) := by omega
  have HE13 := hide e13
  have HE19 := hide e19
  rw [e13, e19]
  clear hq ho h13 h19 hz hf e13 e19 hx hxi v0 v1 v2 v3 v4 v5 v6
  conv => arg 2; dsimp only [cdP, Tryz.f6, Option.getD]
  go_wp2_with fail
  exact HQ.out _ _ (by rfl) (by intro j hj; simp at hj; rcases hj with rfl | rfl | rfl | rfl | rfl | rfl | rfl | rfl <;> first | rfl | exact congrArg some HE13.out.symm | exact congrArg some HE19.out.symm) (by rfl) inferInstance blw
end Go.Proofs.YtkglclekieckoaaGreat

namespace Go.Proofs.YtkglclekieckoaaGreat
set_option linter.unusedSimpArgs false
set_option linter.unusedVariables false
set_option linter.unusedSectionVars false
open Go.RowKit

set_option maxRecDepth 100000 in
set_option maxHeartbeats 8000000 in
theorem rs_pick (Q : Exit → Act → World → Prop) (W : World) (PA : Option Addr) (pc : Nat) (pl : List Int) (WA : Option Addr) (wc : Nat) (l : List Wq) (m : Nat) (T : Array Value) (hz : T.size = 178)
    (h3 : T[3]? = some (.slice PA pl.length pc)) (h13 : T[13]? = some (.slice WA l.length wc)) (h18 : T[18]? = some (.int .i64 m)) (h19 : T[19]? = some (.int .i64 0))
    (hp : Reads W W.heap.size 1 PA pl.length (ics pl)) (hpi : ∀ x ∈ pl, -9223372036854775808 ≤ x ∧ x ≤ 9223372036854775807) (hpl : pl.length ≤ 300) (hl : Reads W W.heap.size 7 WA l.length (wqs l)) (hl0 : 0 < l.length) (hln : l.length ≤ 1000) (hm : m ≤ 200)
    (hq : ∀ (T' : Array Value) (i : Nat) (hi : i < l.length), T'.size = 178 → (∀ j ∈ [1, 2, 3, 9, 11, 13, 18], T'[j]? = T[j]?) → T'[19]? = some (.int .i64 i) → (∀ j (h : j < l.length), j < i → l[j].ds ≠ l[i].ds) → Q .normal ⟨T', []⟩ W) :
    Code.wp Tryz.prog (cdP [true, true, true, true, true, true, true, true, false, true, false, false, true, false, false, true, true, false] (Tryz.f6.body.getD .skip)) Q ⟨T, []⟩ W := by
  obtain ⟨f, hf, hT'⟩ := frameRs hz
  have HQ := hide hq
  subst hT'
  have e3 := hf 3 _ h3
  have e13 := hf 13 _ h13
  have e18 := hf 18 _ h18
  have e19 := hf 19 _ h19
  have HE3 := hide e3
  have HE13 := hide e13
  have HE18 := hide e18
  have HP := hide hp
  have HPI := hide hpi
  have HL := hide hl
  rw [e3, e13, e18, e19]
  clear hq h3 h13 h18 h19 hz hf e3 e13 e18 e19 hp hpi hl
  conv => arg 2; dsimp only [cdP, Tryz.f6, Option.getD]
  by_cases hp0 : 0 < pl.length
  · obtain ⟨b, off, x, hA, hb, hx, v0⟩ := Reads.atI HP.out (k := m % pl.length) (Nat.mod_lt _ hp0)
    have TA := hide (at18_e x l.length W hl0 hln (HPI.out x (List.mem_of_getElem? hx)))
    have hi := atI_lt x l.length hl0
    generalize atI x l.length = i at TA hi
    obtain ⟨b2, off2, y, hA2, hb2, hy, u0, u1, u2, u3, u4, u5, u6⟩ := Reads.atWq HL.out hi
    have hyi : l[i] = y := by
      have := List.getElem?_eq_getElem hi
      rw [hy] at this
      injection this with this
      exact this.symm
    have HF := hide (firstW_is (l := l) (t := y.ds) ⟨y, List.mem_of_getElem? hy, rfl⟩)
    have TF := hide (fun W' (h : W' = W) => (by subst h; exact first18_s WA wc l y.ds W' HL.out (by omega) : Calls Tryz.prog 24 #[.int .i64 y.ds, .slice WA l.length wc] W' (fun e w' => e = .returned (.int .i64 (firstW y.ds l)) ∧ w' = W')))
    subst hA
    subst hA2
    haveI : CellAt W b (off + m % pl.length) (.int .i64 x) := ⟨hb, v0⟩
    haveI : InW b W := ⟨hb⟩
    haveI : CellAt W b2 (off2 + i * 7) (.int .i64 y.ds) := ⟨hb2, u0⟩
    haveI : InW b2 W := ⟨hb2⟩
    have d0 : decide (0 < pl.length) = true := decide_eq_true hp0
    have d1 : decide (0 < (pl.length : Int)) = true := decide_eq_true (by omega)
    have j0 : (0 : Int) ≤ (i : Int) := by omega
    have j1 : (i : Int) < (l.length : Int) := by omega
    have hmo : (m : Int) % (pl.length : Int) = ((m % pl.length : Nat) : Int) := by omega
    have k1 : ((m % pl.length : Nat) : Int) < (pl.length : Int) := by have := Nat.mod_lt m hp0; omega
    have k0 : (0 : Int) ≤ ((m % pl.length : Nat) : Int) := by omega
    have HMO := hide hmo
    clear hp0 hx hy v0 u0 u1 u2 u3 u4 u5 u6 hyi hmo
    go_wp2_with fail
    (with_reducible refine (TA.out).mono ?_)
    rintro e w2 ⟨rfl, rfl⟩
    go_wp2_with fail
    (with_reducible refine (TF.out _ ?_).mono ?_)
    · rfl
    rintro e w3 ⟨rfl, rfl⟩
    go_wp2_with fail
    obtain ⟨q1, q2, q3⟩ := HF.out
    exact HQ.out _ (firstW y.ds l) q1 (by rfl) (by intro j hj; simp at hj; rcases hj with rfl | rfl | rfl | rfl | rfl | rfl | rfl <;> first | rfl | exact congrArg some HE3.out.symm | exact congrArg some HE13.out.symm | exact congrArg some HE18.out.symm) (by rfl) (fun j hj h => by rw [q2]; exact q3 j hj h)
  · have d0 : decide (0 < pl.length) = false := decide_eq_false hp0
    have HL0 := hide hl0
    clear hp0
    go_wp2_with fail
    exact HQ.out _ 0 HL0.out (by rfl) (by intro j hj; simp at hj; rcases hj with rfl | rfl | rfl | rfl | rfl | rfl | rfl <;> first | rfl | exact congrArg some HE3.out.symm | exact congrArg some HE13.out.symm | exact congrArg some HE18.out.symm) (by rfl) (fun j _ h => by omega)
end Go.Proofs.YtkglclekieckoaaGreat

namespace Go.Proofs.YtkglclekieckoaaGreat
set_option linter.unusedSimpArgs false
set_option linter.unusedVariables false
set_option linter.unusedSectionVars false
open Go.RowKit

theorem wp_cdseq {P : Program} {Q : Exit → Act → World → Prop} {a : Act} {w : World} {c : Code} (p : List Bool) (e : cdP p c = .seq (cdP (p ++ [false]) c) (cdP (p ++ [true]) c)) (h : Code.wp P (cdP (p ++ [false]) c) (Exit.then (Code.wp P (cdP (p ++ [true]) c) Q) Q) a w) : Code.wp P (cdP p c) Q a w := by
  rw [e]
  exact wp_seq h
theorem wp_cdblock {P : Program} {Q : Exit → Act → World → Prop} {a : Act} {w : World} {c : Code} (id : Nat) (p : List Bool) (e : cdP p c = .block id (cdP (p ++ [false]) c)) (h : Code.wp P (cdP (p ++ [false]) c) (Exit.inBlock id Q) a w) : Code.wp P (cdP p c) Q a w := by
  rw [e]
  exact wp_block h
theorem wp_cdloop {P : Program} {Q : Exit → Act → World → Prop} {a : Act} {w : World} {c : Code} (p : List Bool) (e : cdP p c = .loop (cdP (p ++ [false]) c)) (I : Act → World → Prop) (μ : Act → World → Nat) (h₀ : I a w)
    (round : ∀ a w, I a w → (cdP (p ++ [false]) c).wp P (Exit.then (fun a' w' => I a' w' ∧ μ a' w' < μ a w) Q) a w) : Code.wp P (cdP p c) Q a w := by
  rw [e]
  exact wp_loop I μ h₀ round
set_option maxRecDepth 100000 in
set_option maxHeartbeats 8000000 in
theorem rs_25 (Q : Exit → Act → World → Prop) (W : World) (T : Array Value) (hz : T.size = 178) 
    (hq : ∀ T' : Array Value, T'.size = 178 → (∀ j ∈ [1, 2, 3, 9, 11, 13], T'[j]? = T[j]?) → T'[18]? = some (.int .i64 0) → Q .normal ⟨T', []⟩ W) :
    Code.wp Tryz.prog (cdP [true, true, true, true, true, true, true, true, false, false] (Tryz.f6.body.getD .skip)) Q ⟨T, []⟩ W := by
  obtain ⟨f, hf, hT'⟩ := frameRs hz
  have HQ := hide hq
  subst hT'
  clear hq hz hf 
  conv => arg 2; dsimp only [cdP, Tryz.f6, Option.getD]
  go_wp2_with fail
  exact HQ.out _ (by rfl) (by intro j hj; simp at hj; rcases hj with rfl | rfl | rfl | rfl | rfl | rfl <;> first | rfl) (by rfl)
set_option maxRecDepth 100000 in
set_option maxHeartbeats 8000000 in
theorem rs_26 (Q : Exit → Act → World → Prop) (W : World) (WA : Option Addr) (wc ln : Nat) (T : Array Value) (hz : T.size = 178) (h13 : T[13]? = some (.slice WA ln wc))
    (hq : ∀ T' : Array Value, T'.size = 178 → (∀ j ∈ [1, 2, 3, 9, 11, 13, 18], T'[j]? = T[j]?) → (ln = 0 → Q (.exit 6) ⟨T', []⟩ W) ∧ (0 < ln → Q .normal ⟨T', []⟩ W)) :
    Code.wp Tryz.prog (cdP [true, true, true, true, true, true, true, true, false, true, false, false, false] (Tryz.f6.body.getD .skip)) Q ⟨T, []⟩ W := by
  obtain ⟨f, hf, hT'⟩ := frameRs hz
  have HQ := hide hq
  subst hT'
  have e13 := hf 13 _ h13
  have HE13 := hide e13
  rw [e13]
  clear hq hz hf h13 e13
  conv => arg 2; dsimp only [cdP, Tryz.f6, Option.getD]
  by_cases hl : 0 < ln
  · have d0 : decide (0 < ln) = true := decide_eq_true hl
    have d1 : decide (0 < (ln : Int)) = true := decide_eq_true (by omega)
    have HL := hide hl
    clear hl
    go_wp2_with fail
    exact (HQ.out _ (by rfl) (by intro j hj; simp at hj; rcases hj with rfl | rfl | rfl | rfl | rfl | rfl | rfl <;> first | rfl | exact congrArg some HE13.out.symm)).2 HL.out
  · have d0 : decide (0 < ln) = false := decide_eq_false hl
    have d1 : decide (0 < (ln : Int)) = false := decide_eq_false (by omega)
    have HL := hide (show ln = 0 by omega)
    clear hl
    go_wp2_with fail
    exact (HQ.out _ (by rfl) (by intro j hj; simp at hj; rcases hj with rfl | rfl | rfl | rfl | rfl | rfl | rfl <;> first | rfl | exact congrArg some HE13.out.symm)).1 HL.out
set_option maxRecDepth 100000 in
set_option maxHeartbeats 8000000 in
theorem rs_28 (Q : Exit → Act → World → Prop) (W : World) (m : Nat) (T : Array Value) (hz : T.size = 178) (h18 : T[18]? = some (.int .i64 m)) (hm : m < 200)
    (hq : ∀ T' : Array Value, T'.size = 178 → (∀ j ∈ [1, 2, 3, 9, 11, 13, 18], T'[j]? = T[j]?) → Q .normal ⟨T', []⟩ W) :
    Code.wp Tryz.prog (cdP [true, true, true, true, true, true, true, true, false, true, false, false, true, false, false, false] (Tryz.f6.body.getD .skip)) Q ⟨T, []⟩ W := by
  obtain ⟨f, hf, hT'⟩ := frameRs hz
  have HQ := hide hq
  subst hT'
  have e18 := hf 18 _ h18
  have HE18 := hide e18
  rw [e18]
  clear hq hz hf h18 e18
  conv => arg 2; dsimp only [cdP, Tryz.f6, Option.getD]
  have d0 : ((m : Int) == 200) = false := beq_eq_false_iff_ne.2 (by omega)
  go_wp2_with fail
  exact HQ.out _ (by rfl) (by intro j hj; simp at hj; rcases hj with rfl | rfl | rfl | rfl | rfl | rfl | rfl <;> first | rfl | exact congrArg some HE18.out.symm)
set_option maxRecDepth 100000 in
set_option maxHeartbeats 8000000 in
theorem rs_30 (Q : Exit → Act → World → Prop) (W : World) (T : Array Value) (hz : T.size = 178) 
    (hq : ∀ T' : Array Value, T'.size = 178 → (∀ j ∈ [1, 2, 3, 9, 11, 13, 18], T'[j]? = T[j]?) → T'[19]? = some (.int .i64 0) → Q .normal ⟨T', []⟩ W) :
    Code.wp Tryz.prog (cdP [true, true, true, true, true, true, true, true, false, true, false, false, true, false, false, true, false] (Tryz.f6.body.getD .skip)) Q ⟨T, []⟩ W := by
  obtain ⟨f, hf, hT'⟩ := frameRs hz
  have HQ := hide hq
  subst hT'
  clear hq hz hf 
  conv => arg 2; dsimp only [cdP, Tryz.f6, Option.getD]
  go_wp2_with fail
  exact HQ.out _ (by rfl) (by intro j hj; simp at hj; rcases hj with rfl | rfl | rfl | rfl | rfl | rfl | rfl <;> first | rfl) (by rfl)
set_option maxRecDepth 100000 in
set_option maxHeartbeats 8000000 in
theorem rs_27 (Q : Exit → Act → World → Prop) (W : World) (m : Nat) (T : Array Value) (hz : T.size = 178) (h18 : T[18]? = some (.int .i64 m)) (hm : m < 200)
    (hq : ∀ T' : Array Value, T'.size = 178 → (∀ j ∈ [1, 2, 3, 9, 11, 13], T'[j]? = T[j]?) → T'[18]? = some (.int .i64 ((m + 1 : Nat) : Int)) → Q .normal ⟨T', []⟩ W) :
    Code.wp Tryz.prog (cdP [true, true, true, true, true, true, true, true, false, true, false, false, true, true] (Tryz.f6.body.getD .skip)) Q ⟨T, []⟩ W := by
  obtain ⟨f, hf, hT'⟩ := frameRs hz
  have HQ := hide hq
  subst hT'
  have e18 := hf 18 _ h18
  have HE18 := hide e18
  rw [e18]
  clear hq hz hf h18 e18
  conv => arg 2; dsimp only [cdP, Tryz.f6, Option.getD]
  go_wp2_with fail
  refine HQ.out _ (by rfl) (by intro j hj; simp at hj; rcases hj with rfl | rfl | rfl | rfl | rfl | rfl <;> first | rfl) ?_
  have e : IntKind.i64.wrap ((m : Int) + 1) = ((m + 1 : Nat) : Int) := by
    rw [IntWalk.i64_in _ (by omega)]
    omega
  first
    | rfl
    | (rw [← e]; rfl)
end Go.Proofs.YtkglclekieckoaaGreat

namespace Go.Proofs.YtkglclekieckoaaGreat
set_option linter.unusedSimpArgs false
set_option linter.unusedVariables false
set_option linter.unusedSectionVars false
open Go.RowKit

structure Dl (c : Cfg) (R : Nat → Int) (X : Int) (m : Nat) (M : Ms) (Y : Wy) : Prop where
  bs : BndS (300 + 2 * m) M.aa M.cc M.S
  sl : M.S.length ≤ 200 + m
  vl : M.V.length ≤ 200 + m
  wl : Y.l.length ≤ 16 + 4 * m
  st : c.O = [] ∨ ∃ own, Stl c R X (fun k => (M.aa k).br) own (wayQ Y.l)
  pt : m + potR c (RSet c R X) (fun k => (M.aa k).br) (wayQ Y.l) ≤ 96
theorem Dl.step {c : Cfg} {R : Nat → Int} {X : Int} {m : Nat} {M : Ms} {Y Y' : Wy} (hc : c.Ok) (h : Dl c R X m M Y) (ho : OneS M.aa M.inc M.cc M.S M.V) (hds : ∀ x ∈ Y.l, x.ds ∈ c.O) {i : Nat} (hi : i < Y.l.length) (hf : ∀ j (h : j < Y.l.length), j < i → Y.l[j].ds ≠ Y.l[i].ds)
    {C' : List Nat} {SA' : Option Addr} {sc' : Nat} {VA' : Option Addr} {vc' : Nat} {b : Ag} {u : Tu} (hT : TOk (M.S.map Pp.br) (ofN M.cc) (Y.l[i].ds) (M.aa Y.l[i].ds).br b.br u.br) (hmb : MBx M.aa M.cc M.S b u) (hb : b.br = (takeP (M.aa Y.l[i].ds).br Y.l[i].pp.br).1) (hu : u.br = (takeP (M.aa Y.l[i].ds).br Y.l[i].pp.br).2)
    (hY : Y'.l = (if u.sd = true then (Y.l.take i ++ Y.l.drop (i + 1)) ++ sentW c.O Y.l[i].ds u.pp else Y.l.take i ++ Y.l.drop (i + 1))) : Dl c R X (m + 1) (M.turned C' SA' sc' VA' vc' Y.l[i].ds b u) Y' := by
  have hk : Y.l[i].ds ∈ c.O := hds _ (List.getElem_mem hi)
  obtain ⟨own, hst⟩ := h.st.resolve_left (fun e => by rw [e] at hk; cases hk)
  generalize hkk : Y.l[i].ds = k at hk hf hT hb hu hY
  generalize hpp : Y.l[i].pp.br = p at hb hu
  have hk4 := hc.lt k hk
  have hpt := h.pt
  have hm : m ≤ 96 := by omega
  have hq : wayQ Y.l k = p :: wayQ (Y.l.take i ++ Y.l.drop (i + 1)) k := by
    rcases wayQ_take hi (by rw [hkk]; exact hf) k with e | e
    · rw [e, if_pos hkk.symm, hpp]; rfl
    · exact absurd hkk.symm e
  have hkeep : ∀ j, j ≠ k → wayQ (Y.l.take i ++ Y.l.drop (i + 1)) j = wayQ Y.l j := fun j hj => wayQ_keep hi (by rw [hkk]; exact hj)
  have hcid : ∀ x ∈ (M.aa k).br.cl, x.cid < um := fun x hx => by
    rw [(ho.srv k hk4).cc (h.bs.sp k hk4) x hx]
    have : ofN M.cc x.n ≤ 300 + 2 * m := h.bs.ck _
    unfold um
    omega
  have hX : X + 2 < um := by
    obtain ⟨q, hq, e⟩ := hst.mx
    have h1 := hst.rk q hq
    have h2 : (M.aa q).br.rd ≤ 300 + 2 * m := h.bs.rd q (hc.lt q hq)
    unfold um
    omega
  have a1 : (fun j => ((M.turned C' SA' sc' VA' vc' k b u).aa j).br) k = b.br := congrArg Ag.br (updN_at ..)
  have a2 : ∀ j, j ≠ k → (fun j => ((M.turned C' SA' sc' VA' vc' k b u).aa j).br) j = (M.aa j).br := fun j hj => congrArg Ag.br (updN_ne _ _ hj)
  have hlen : (Y.l.take i ++ Y.l.drop (i + 1)).length + 1 = Y.l.length := by rw [List.length_append, List.length_take, List.length_drop]; omega
  have hwl := h.wl
  have hsl := h.sl
  have hvl := h.vl
  have hbs : BndS (300 + 2 * (m + 1 : Nat)) (updN M.aa k b) (cidsN M.cc u.ts) (if u.sd = true then M.S ++ [u.pp] else M.S) := by
    have := h.bs.turned ho hk4 hT (hmb _ h.bs (by unfold um; omega)) (by omega)
    rw [show (300 : Int) + 2 * (m : Int) + 2 = 300 + 2 * ((m + 1 : Nat) : Int) by omega] at this
    exact this
  have hsl' : (if u.sd = true then M.S ++ [u.pp] else M.S).length ≤ 200 + (m + 1) := by split <;> (try rw [List.length_append, List.length_singleton]) <;> omega
  have hvl' : (if u.md = true then M.V ++ [u.vw] else M.V).length ≤ 200 + (m + 1) := by split <;> (try rw [List.length_append, List.length_singleton]) <;> omega
  rcases hst.take hc hk hq hcid hX with ht | ht
  · have hsd : u.sd = false := by
      have := ht.snd
      rw [← hu] at this
      exact this
    rw [if_neg (by rw [hsd]; simp)] at hY
    have q1 : wayQ Y'.l k = wayQ (Y.l.take i ++ Y.l.drop (i + 1)) k := by rw [hY]
    have q2 : ∀ j ∈ c.O, j ≠ k → wayQ Y'.l j = wayQ Y.l j := fun j _ hj => by rw [hY]; exact hkeep j hj
    have hp := potN hc hk hq ht (a1.trans hb) a2 q1 q2 (RSet c R X)
    refine ⟨hbs, hsl', hvl', by rw [hY]; omega, .inr ⟨own, hst.takeN hk hq ht (a1.trans hb) a2 q1 q2⟩, by omega⟩
  · have hsd : u.sd = true := by
      have := ht.snd
      rw [← hu] at this
      exact this
    have hup : u.pp.br = (takeP (M.aa k).br p).2.pp := by rw [← hu]; rfl
    rw [if_pos hsd] at hY
    have q1 : wayQ Y'.l k = wayQ (Y.l.take i ++ Y.l.drop (i + 1)) k := by rw [hY, wayQ_app, wayQ_sent hc.nd k u.pp hk, if_pos rfl, List.append_nil]
    have q2 : ∀ j ∈ c.O, j ≠ k → wayQ Y'.l j = wayQ Y.l j ++ [(takeP (M.aa k).br p).2.pp] := fun j hjo hj => by rw [hY, wayQ_app, hkeep j hj, wayQ_sent hc.nd k u.pp hjo, if_neg hj, hup]
    have hst' := hst.takeS (own' := fun j => if j = k then (takeP (M.aa k).br p).2.pp else own j) hc hk hq ht (a1.trans hb) a2 (if_pos rfl) (fun j hj => if_neg hj) q1 q2
    have hrs : (takeP (M.aa k).br p).1.rd ∈ RSet c R X := by
      rw [← hb, ← a1]
      exact hst'.rs k hk
    have hp := potS hc hk hq ht (a1.trans hb) a2 q1 q2 hrs
    have hl4 := sentW_len c.O k u.pp
    have hc4 := hc.len
    refine ⟨hbs, hsl', hvl', by rw [hY, List.length_append]; omega, .inr ⟨_, hst'⟩, by omega⟩
end Go.Proofs.YtkglclekieckoaaGreat

/-
  Layer 21: letters with their places; contract: the closure of cut.Keep that takes a letter in.
-/
import Derived.Test.YtmleeohaaipdcaaCutQ
import Derived.Test.YtmleeohaaipdcaaInts
namespace Go.Proofs.Ytmleeohaaipdcaa
set_option linter.unusedSimpArgs false
set_option linter.unusedVariables false
set_option linter.unusedSectionVars false
open Go.RowKit

abbrev kc (t : Lr × Nat) : List Value := [.int .i64 t.1.x.k, .int .i64 t.1.x.p.1, .int .u64 t.1.x.p.2, .int .u64 t.1.x.r, .int .i64 t.1.x.s.1, .int .u64 t.1.x.s.2, .int .u64 t.1.x.n, .slice t.1.BA t.1.x.b.length t.1.bc, .int .u64 t.1.x.cid, .slice t.1.CA t.1.x.c.length t.1.cc, .bool t.1.x.w, .int .i64 t.2]
def kcs (l : List (Lr × Nat)) : List Value := l.flatMap kc
theorem kc_len (t : Lr × Nat) : (kc t).length = 12 := rfl
theorem kcs_len (l : List (Lr × Nat)) : (kcs l).length = l.length * 12 := flat_length kc_len l
theorem kcs_app (l m : List (Lr × Nat)) : kcs (l ++ m) = kcs l ++ kcs m := List.flatMap_append
theorem kc_one (l : List (Lr × Nat)) : ∀ u ∈ kcs l, u.oneCell' = true := by
  intro u hu
  obtain ⟨p, _, hp⟩ := List.mem_flatMap.1 hu
  simp [kc] at hp
  rcases hp with rfl | rfl | rfl | rfl | rfl | rfl | rfl | rfl | rfl | rfl | rfl | rfl <;> rfl
theorem Try.okKp : ElemOk Try.prog 105 109 12 128 := elemOk_of (.agg #[.int .i64 0, .int .i64 0, .int .u64 0, .int .u64 0, .int .i64 0, .int .u64 0, .int .u64 0, .slice none 0 0, .int .u64 0, .slice none 0 0, .bool false, .int .i64 0]) Try.underlying105 (by kernel_rfl) rfl (by omega)
theorem reads_kp1 (W : World) (m : Nat) (t : Lr × Nat) [h : BoxAt W m #[.int .i64 t.1.x.k, .int .i64 t.1.x.p.1, .int .u64 t.1.x.p.2, .int .u64 t.1.x.r, .int .i64 t.1.x.s.1, .int .u64 t.1.x.s.2, .int .u64 t.1.x.n, .slice t.1.BA t.1.x.b.length t.1.bc, .int .u64 t.1.x.cid, .slice t.1.CA t.1.x.c.length t.1.cc, .bool t.1.x.w, .int .i64 t.2] 109] : Reads W W.heap.size 12 (some ⟨m, 0, none⟩) 1 (kcs [t]) := by
  refine ⟨rfl, fun _ => ⟨_, _, rfl, h.lt, fun j u hu => ?_⟩⟩
  rw [Nat.zero_add, cell?_box]
  have e : kcs [t] = (#[.int .i64 t.1.x.k, .int .i64 t.1.x.p.1, .int .u64 t.1.x.p.2, .int .u64 t.1.x.r, .int .i64 t.1.x.s.1, .int .u64 t.1.x.s.2, .int .u64 t.1.x.n, .slice t.1.BA t.1.x.b.length t.1.bc, .int .u64 t.1.x.cid, .slice t.1.CA t.1.x.c.length t.1.cc, .bool t.1.x.w, .int .i64 t.2] : Array Value).toList := rfl
  rw [e] at hu
  simpa using hu
theorem bel_app {B : Nat} {a X w7 : World} {row : Option Nat} (hg : X.grownBy w7 row) [b : Blw a X] (hB : B ≤ a.heap.size) (hr : ∀ k, row = some k → B ≤ k) : Below B a w7 := (b.h.mono hB).grown hg (Nat.le_trans hB b.h.size) hr
/-- what the closure captures: the allowed lives, the letters that may be kept so far -/
structure KS (bo ba : Nat) (OA : Option Addr) (oc : Nat) (of : List Pr) (q : List Lr) (W : World) : Prop where
  o : BoxAt W bo #[.slice OA of.length oc] 32
  k : ∃ A c, BoxAt W ba #[.slice A q.length c] 105 ∧ W.ownsRow (ba + 1) 109 12 (.slice A q.length c) q.length (kcs q.zipIdx)
theorem kcs_snoc (q : List Lr) (y : Lr) : kcs (q ++ [y]).zipIdx = kcs q.zipIdx ++ kcs [(y, q.length)] := by
  rw [List.zipIdx_append, kcs_app]; simp
def addL (of : List Pr) (q : List Lr) (y : Lr) : List Lr := if goodL of y then q ++ [y] else q
set_option maxRecDepth 100000 in
set_option maxHeartbeats 8000000 in
theorem add_s (bo ba : Nat) (OA : Option Addr) (oc : Nat) (of : List Pr) (q : List Lr) (y : Lr) (w : World) (S : KS bo ba OA oc of q w) (hy : y.x.Ok w y.BA y.CA) (hof : Sl w OA of) (h1 : bo < ba) (hq : q.length ≤ 100000) (hol : of.length ≤ 100000) :
    Calls Try.prog 40 #[y.v, .pointer (some ⟨bo, 0, none⟩), .pointer (some ⟨ba, 0, none⟩)] w fun e w' => e = .returned (.tuple #[]) ∧ KS bo ba OA oc of (addL of q y) w' ∧ Below ba w w' := by
  have HOF := hide hof
  have HY := hide hy
  have TM := hide (fun w (h : y.x.Ok w y.BA y.CA) => letMay_s y.x y.BA y.bc y.CA y.cc w h)
  have TH := hide (fun w (h : Sl w OA of) => has_b OA oc of y.x.p.1 y.x.p.2 w h (by omega))
  haveI := S.o
  obtain ⟨A, c, hk, ho⟩ := S.k
  haveI := hk
  have z0 := hk.lt
  haveI : LtN ba w.heap.size := ⟨z0⟩
  haveI : LtN bo ba := ⟨h1⟩
  haveI : LtN ba (ba + 1) := ⟨by omega⟩
  haveI : LtN bo (ba + 1) := ⟨by omega⟩
  haveI : LtN bo w.heap.size := ⟨by omega⟩
  haveI : NeN bo ba := ⟨by omega⟩
  haveI : LeN (ba + 1) w.heap.size := ⟨z0⟩
  have HO := hide ho
  clear S hk ho hof hy
  have hbl : ∀ w', Blw w w' → Below ba w w' := fun w' h => h.h.mono (by omega)
  have HBL := hide hbl
  clear hbl
  cases f1 : (y.x.k == 8)
  · have H := hide (show goodL of y = false by unfold goodL; rw [f1]; rfl)
    go_enter Try.func40, Try.ntmps40
    go_wp2_with (first | (go_at_call 41; (with_reducible refine (TM.out _ HY.out.tc).mono ?_); rintro e w1 ⟨rfl, hb⟩; haveI : Stp _ w1 := ⟨hb⟩; have z1 := hb.size; simp at z1; clear hb) | (go_at_call 42; (with_reducible refine (TH.out _ (HOF.out.step blw)).mono ?_); rintro e w2 ⟨rfl, hb⟩; haveI : Stp _ w2 := ⟨hb⟩; have z2 := hb.size; clear hb))
    go_end0
    rw [addL, H.out, if_neg Bool.false_ne_true]
    exact ⟨rfl, ⟨inferInstance, _, _, inferInstance, own_tc HO.out⟩, HBL.out _ inferInstance⟩
  · cases f2 : y.x.mayB
    · rw [f2] at TM
      have H := hide (show goodL of y = false by unfold goodL; rw [f1, f2]; rfl)
      go_enter Try.func40, Try.ntmps40
      go_wp2_with (first | (go_at_call 41; (with_reducible refine (TM.out _ HY.out.tc).mono ?_); rintro e w1 ⟨rfl, hb⟩; haveI : Stp _ w1 := ⟨hb⟩; have z1 := hb.size; simp at z1; clear hb) | (go_at_call 42; (with_reducible refine (TH.out _ (HOF.out.step blw)).mono ?_); rintro e w2 ⟨rfl, hb⟩; haveI : Stp _ w2 := ⟨hb⟩; have z2 := hb.size; clear hb))
      go_end0
      rw [addL, H.out, if_neg Bool.false_ne_true]
      exact ⟨rfl, ⟨inferInstance, _, _, inferInstance, own_tc HO.out⟩, HBL.out _ inferInstance⟩
    · rw [f2] at TM
      by_cases f3 : y.x.p ∈ of
      · rw [decide_eq_true (show (y.x.p.1, y.x.p.2) ∈ of from f3)] at TH
        have H := hide (show goodL of y = true by unfold goodL; rw [f1, f2, decide_eq_true f3]; rfl)
        clear f3
        go_enter Try.func40, Try.ntmps40
        go_wp2_with (first | (go_at_call 41; (with_reducible refine (TM.out _ HY.out.tc).mono ?_); rintro e w1 ⟨rfl, hb⟩; haveI : Stp _ w1 := ⟨hb⟩; have z1 := hb.size; simp at z1; clear hb) | (go_at_call 42; (with_reducible refine (TH.out _ (HOF.out.step blw)).mono ?_); rintro e w2 ⟨rfl, hb⟩; haveI : Stp _ w2 := ⟨hb⟩; have z2 := hb.size; clear hb) | (at_builtin; refine wpList_append_w Try.okKp rfl (.tmp 17) (.tmp 22) rfl (ba + 1) (.slice A q.length c) q.length (kcs q.zipIdx) 1 (kcs [(y, q.length)]) ?_ ?_ ?_ ?_ ?_ ?_ ?_ ?_; go_must ((focus (first | rfl | (simp [Act.eval, Act.put]; done))); (focus (exact own_tc HO.out)); (focus (refine ⟨_, _, rfl, ?_⟩; exact reads_kp1 _ _ (y, q.length))); (focus (exact kc_one _)); (focus (unfold maxLen; omega)); (focus omega); (focus (first | omega | (simp; done) | (simp; omega) | exact BoxAt.lt (n := w.heap.size) inferInstance)); intro v7 w7 ho7 hg7; have HB7 := hide (bel_app (B := ba) (a := w) hg7 (by omega) (fun q hq => by have := (HO.out.lt q hq).1; omega)); haveI : StpB (ba + 1) _ w7 := ⟨grown_belowT hg7 (by (try simp) <;> omega) (fun q hq => (HO.out.lt q hq).1)⟩; obtain ⟨A7, c7, rfl, _, _⟩ := own_slice ho7; have O7 := hide ho7; clear ho7 hg7)))
        go_end0
        rw [addL, H.out, if_pos rfl]
        refine ⟨rfl, ⟨inferInstance, A7, c7, ?_, ?_⟩, HB7.out.setCell (p := ⟨ba, 0, none⟩) (Nat.le_refl _) _⟩
        · rw [List.length_append, List.length_singleton]; infer_instance
        · rw [List.length_append, List.length_singleton, kcs_snoc]; exact own_kp O7.out
      · rw [decide_eq_false (show ¬ (y.x.p.1, y.x.p.2) ∈ of from f3)] at TH
        have H := hide (show goodL of y = false by unfold goodL; rw [f1, f2, decide_eq_false f3]; rfl)
        clear f3
        go_enter Try.func40, Try.ntmps40
        go_wp2_with (first | (go_at_call 41; (with_reducible refine (TM.out _ HY.out.tc).mono ?_); rintro e w1 ⟨rfl, hb⟩; haveI : Stp _ w1 := ⟨hb⟩; have z1 := hb.size; simp at z1; clear hb) | (go_at_call 42; (with_reducible refine (TH.out _ (HOF.out.step blw)).mono ?_); rintro e w2 ⟨rfl, hb⟩; haveI : Stp _ w2 := ⟨hb⟩; have z2 := hb.size; clear hb))
        go_end0
        rw [addL, H.out, if_neg Bool.false_ne_true]
        exact ⟨rfl, ⟨inferInstance, _, _, inferInstance, own_tc HO.out⟩, HBL.out _ inferInstance⟩
end Go.Proofs.Ytmleeohaaipdcaa

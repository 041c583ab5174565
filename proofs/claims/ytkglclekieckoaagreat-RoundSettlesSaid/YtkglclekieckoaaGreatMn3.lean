/-
  Agreements and turns are read and stored whole: one step each; what that leaves is found by instances.
-/
import Derived.Test.YtkglclekieckoaaGreatTc
import Derived.Deep.MidRow
import Derived.Test.YtkglclekieckoaaGreatTr
import Derived.Test.YtkglclekieckoaaGreatAgR
import Derived.Test.YtkglclekieckoaaGreatRu12
namespace Go.Proofs.YtkglclekieckoaaGreat
set_option linter.unusedSimpArgs false
set_option linter.unusedVariables false
set_option linter.unusedSectionVars false
open Go.RowKit

theorem below_setRow {B : Nat} {a w : World} (h : Below B a w) {m : Nat} (hm : B ≤ m) (cs : Array Value) : Below B a (w.setRow m cs) :=
  ⟨h.os, h.tape, h.output, by rw [setRow_size]; exact h.size, fun i hi => (setRow_other _ _ _ _ (by omega)).trans (h.block i hi)⟩
instance (priority := high) BoxAt.rowAt (W : World) (m : Nat) (new : Array Value) (cs : Array Value) (t : TypeId) [k : BoxAt W m cs t] : BoxAt (W.setRow m new) m new t := ⟨setRow_heap _ _ _ _ _ _ k.eq⟩
instance (priority := low) BoxAt.rowNe (W : World) (n m : Nat) (new : Array Value) (cs : Array Value) (t : TypeId) [k : BoxAt W n cs t] [e : NeN n m] : BoxAt (W.setRow m new) n cs t := ⟨by rw [setRow_other _ _ _ _ e.h]; exact k.eq⟩
instance Blw.row (a W : World) (m : Nat) (cs : Array Value) [k : Blw a W] [l : LeN a.heap.size m] : Blw a (W.setRow m cs) := ⟨below_setRow k.h l.h cs⟩
@[go_sem] theorem size_setRow' (w : World) (m : Nat) (cs : Array Value) : (w.setRow m cs).heap.size = w.heap.size := setRow_size _ _ _
theorem Tryz.infoAg : (Tryz.prog.info? 38).map (·.size) = some 14 := by kernel_rfl
theorem Tryz.infoTu : (Tryz.prog.info? 43).map (·.size) = some 14 := by kernel_rfl
/-- behind names: the walk takes them as one step -/
def stAg (a : Addr) (v : Value) : Sem Unit := storeVar 38 a v
def stTu (a : Addr) (v : Value) : Sem Unit := storeVar 43 a v
@[go_sem ↓] theorem st_ag (a : Addr) (v : Value) : storeVar 38 a v = stAg a v := rfl
@[go_sem ↓] theorem st_tu (a : Addr) (v : Value) : storeVar 43 a v = stTu a v := rfl
def ldAg (a : Addr) : Sem Value := loadVar 38 a
@[go_sem ↓] theorem ld_ag (a : Addr) : loadVar 38 a = ldAg a := rfl
theorem Tryz.undAg : (Tryz.prog.underlying 38).map TypeDesc.isRow = some true := by kernel_rfl
@[go_sem] theorem ldAg_box (w : World) (g : Nat) (cs : Array Value) (t : TypeId) [k : BoxAt w g cs t] (h : cs.size = 14) : (ldAg ⟨g, 0, none⟩).run Tryz.prog w = .ok (.agg cs) w := by
  have hu := Tryz.undAg
  cases hq : Tryz.prog.underlying 38 with
  | none => rw [hq] at hu; cases hu
  | some d =>
    rw [hq] at hu
    exact run_loadVar_mid w g 0 _ cs.toList d (fun j v hv => by rw [Nat.zero_add, cell?_box, ← Array.getElem?_toList]; exact hv) hq (by simpa using hu) (by rw [Array.length_toList, h]; exact Tryz.infoAg)
@[go_sem] theorem stAg_run (w : World) (g : Nat) (cs : Array Value) (t : TypeId) [k : BoxAt w g cs t] (h : cs.size = 14) (n i rd : Int) (SA LA TA GA MA UA : Option Addr) (sl sc ll lc tl tc gl gc ml mc ul uc : Nat) (dn sp : Bool) (vr vn vi : Int) :
    (stAg ⟨g, 0, none⟩ (.agg #[.int .i64 n, .int .u64 i, .int .u64 rd, .slice SA sl sc, .slice LA ll lc, .slice TA tl tc, .slice GA gl gc, .bool dn, .bool sp, .int .u64 vr, .int .i64 vn, .int .u64 vi, .slice MA ml mc, .slice UA ul uc])).run Tryz.prog w = .ok () (w.setRow g #[.int .i64 n, .int .u64 i, .int .u64 rd, .slice SA sl sc, .slice LA ll lc, .slice TA tl tc, .slice GA gl gc, .bool dn, .bool sp, .int .u64 vr, .int .i64 vn, .int .u64 vi, .slice MA ml mc, .slice UA ul uc]) :=
  run_storeVar_row w g t _ cs _ k.eq Tryz.infoAg h (by simp [Value.oneCell'])
@[go_sem] theorem stTu_run (w : World) (g : Nat) (cs : Array Value) (t : TypeId) [k : BoxAt w g cs t] (h : cs.size = 14) (A : Option Addr) (l c : Nat) (sd : Bool) (pn pi pr : Int) (SA CA PA : Option Addr) (sl sc cl cc pl pc : Nat) (md : Bool) (vr vn vi : Int) (MA UA : Option Addr) (ml mc ul uc : Nat) :
    (stTu ⟨g, 0, none⟩ (.agg #[.slice A l c, .bool sd, .int .i64 pn, .int .u64 pi, .int .u64 pr, .slice SA sl sc, .slice CA cl cc, .slice PA pl pc, .bool md, .int .u64 vr, .int .i64 vn, .int .u64 vi, .slice MA ml mc, .slice UA ul uc])).run Tryz.prog w = .ok () (w.setRow g #[.slice A l c, .bool sd, .int .i64 pn, .int .u64 pi, .int .u64 pr, .slice SA sl sc, .slice CA cl cc, .slice PA pl pc, .bool md, .int .u64 vr, .int .i64 vn, .int .u64 vi, .slice MA ml mc, .slice UA ul uc]) :=
  run_storeVar_row w g t _ cs _ k.eq Tryz.infoTu h (by simp [Value.oneCell'])
end Go.Proofs.YtkglclekieckoaaGreat

namespace Go.Proofs.YtkglclekieckoaaGreat
set_option linter.unusedSimpArgs false
set_option linter.unusedVariables false
set_option linter.unusedSectionVars false
open Go.RowKit

/-- the cells of the four -/
def mcs (aa : Nat → Ag) (inc c : Nat → Int) (S V : Value) : Array Value := (((List.range 4).flatMap fun k => (aa k).cs.toList) ++ ((List.range 4).map fun k => Value.int .u64 (inc k)) ++ ((List.range 11).map fun k => Value.int .u64 (c k)) ++ [S, V]).toArray
theorem mcs_inc0 (aa : Nat → Ag) (inc c : Nat → Int) (S V : Value) (k : Nat) (h : k < 4) : (mcs aa inc c S V)[56 + k]? = some (.int .u64 (inc k)) := by
  have : k = 0 ∨ k = 1 ∨ k = 2 ∨ k = 3 := by omega
  rcases this with rfl | rfl | rfl | rfl <;> rfl
theorem mcs_cid0 (aa : Nat → Ag) (inc c : Nat → Int) (S V : Value) (k : Nat) (h : k < 11) : (mcs aa inc c S V)[60 + k]? = some (.int .u64 (c k)) := by
  have : k = 0 ∨ k = 1 ∨ k = 2 ∨ k = 3 ∨ k = 4 ∨ k = 5 ∨ k = 6 ∨ k = 7 ∨ k = 8 ∨ k = 9 ∨ k = 10 := by omega
  rcases this with rfl | rfl | rfl | rfl | rfl | rfl | rfl | rfl | rfl | rfl | rfl <;> rfl
@[go_sem] theorem mcs_inc (aa : Nat → Ag) (inc c : Nat → Int) (S V : Value) (k : Nat) (h : k < 4) : (mcs aa inc c S V)[56 + k]? = some (.int .u64 (inc k)) := mcs_inc0 aa inc c S V k h
@[go_sem] theorem mcs_cid (aa : Nat → Ag) (inc c : Nat → Int) (S V : Value) (k : Nat) (h : k < 11) : (mcs aa inc c S V)[60 + k]? = some (.int .u64 (c k)) := mcs_cid0 aa inc c S V k h
@[go_sem] theorem mcs_S (aa : Nat → Ag) (inc c : Nat → Int) (S V : Value) : (mcs aa inc c S V)[71]? = some S := rfl
@[go_sem] theorem mcs_V (aa : Nat → Ag) (inc c : Nat → Int) (S V : Value) : (mcs aa inc c S V)[72]? = some V := rfl
set_option maxRecDepth 100000 in
set_option maxHeartbeats 4000000 in
theorem at18_s (x : Int) (n : Nat) (w : World) (h0 : 0 < n) (h1 : n ≤ 1000) (hx : -9223372036854775808 ≤ x ∧ x ≤ 9223372036854775807) :
    Calls Tryz.prog 25 #[.int .i64 x, .int .i64 n] w (fun e w' => ∃ k : Nat, k < n ∧ e = .returned (.int .i64 k) ∧ w' = w) := by
  have q1 : ((n : Int) == 0) = false := by rw [beq_eq_false_iff_ne]; omega
  go_enter Tryz.func25, Tryz.ntmps25
  go_wp2
  go_ret
  have h2 : (0 : Int) < n := by omega
  have h3 := Int.tmod_lt_of_pos x h2
  have h4 : -(n : Int) < x.tmod n := by
    rcases Int.le_total 0 x with h | h
    · rw [Int.tmod_eq_emod_of_nonneg h]; have := Int.emod_nonneg x (show (n : Int) ≠ 0 by omega); omega
    · rw [show x = -(-x) by omega, Int.neg_tmod]; have := Int.tmod_lt_of_pos (-x) h2; omega
  have h5 : wrap64 (x.tmod n + n) = x.tmod n + n := by unfold wrap64; omega
  have h6 : 0 ≤ (x.tmod n + n).tmod n := by rw [Int.tmod_eq_emod_of_nonneg (by omega)]; exact Int.emod_nonneg _ (by omega)
  have h7 := Int.tmod_lt_of_pos (x.tmod n + n) h2
  refine ⟨((x.tmod n + n).tmod n).toNat, by omega, ?_, rfl⟩
  rw [h5, Int.toNat_of_nonneg h6]
  rfl
theorem lifeM_s (n i : Int) (w : World) : Calls Tryz.prog 8 #[.int .i64 n, .int .u64 i] w fun e w' => e = .returned (.agg #[.int .i64 n, .int .u64 i]) ∧ w' = w.alloc (bx n i) := by
  go_enter Tryz.func8, Tryz.ntmps8
  go_wp2
  refine bodyPost_ret (v := .agg #[.int .i64 n, .int .u64 i]) (by simp [results, Tryz.results8, go_sem]) rfl ?_
  exact ⟨rfl, rfl⟩
/-- lives of servers, in new memory -/
def RetSv (w : World) (e : Ending) (w' : World) : Prop := ∃ (l : List Pr) (A : Option Addr) (c : Nat), l.length ≤ 4 ∧ e = .returned (.slice A l.length c) ∧ w'.ownsRow w.heap.size 25 2 (.slice A l.length c) l.length (pcs l) ∧ Below w.heap.size w w'
set_option maxRecDepth 100000 in
set_option maxHeartbeats 4000000 in
theorem servers18_s (n : Nat) (aa : Nat → Ag) (inc cc : Nat → Int) (S V : Value) (who bits : Int) (w : World) (h : BoxAt w n (mcs aa inc cc S V) 77) :
    Calls Tryz.prog 20 #[.pointer (some ⟨n, 0, none⟩), .int .i64 who, .int .i64 bits] w (RetSv w) := by
  haveI := h
  have TL := hide (fun n i W => lifeM_s n i W)
  clear h
  go_enter Tryz.func20, Tryz.ntmps20
  go_wp2_with fail
  go_loopw [7, 8] (fun v i wr => ∃ (k : Nat) (L : List Pr), k ≤ 4 ∧ i = .int .i64 k ∧ L.length ≤ k ∧ wr.ownsRow w.heap.size 25 2 v L.length (pcs L) ∧ Below w.heap.size w wr) (fun _ i _ => 4 - (intOf i).toNat)
  case atStart => exact ⟨0, [], Nat.zero_le _, rfl, Nat.le_refl _, World.ownsRow_nil _ _ _ _, Below.refl _ _⟩
  case round =>
    obtain ⟨k, L, hk, rfl, hL, hown, hbw⟩ := hrel
    haveI : Stp w wr := ⟨hbw⟩
    have HO := hide hown
    have hsz := hbw.size
    have HBW := hide hbw
    obtain ⟨A, c, rfl, _, _⟩ := own_slice hown
    clear hown hbw
    by_cases hlt : k < 4
    · have i0 : (0 : Int) ≤ (k : Int) := by omega
      have i1 : (k : Int) < 4 := by omega
      go_upto_region 5 with fail
      go_cut [22] (fun s22 wx => (∃ b : Bool, s22 = .bool b) ∧ wx = wr)
      case first =>
        cases hq : ((k : Int) == who)
        all_goals
          go_wp2_with fail
          go_meet
          case rel => exact ⟨⟨_, rfl⟩, rfl⟩
      case rest =>
        obtain ⟨⟨b, rfl⟩, rfl⟩ := hcut
        cases b
        · go_wp2_with fail
          go_roundw
          case rel => exact ⟨k + 1, L, by omega, by go_num, by omega, HO.out, HBW.out⟩
          case measure => simp [intOf]; omega
        · go_wp2_with (first
            | (go_at_call 8; (with_reducible refine (TL.out _ _ _).mono ?_); rintro e w1 ⟨rfl, rfl⟩)
            | (at_builtin; refine wpList_append_w Tryz.okP rfl (.tmp 23) (.tmp 33) rfl w.heap.size (.slice A L.length c) L.length (pcs L) 1 (pcs [((k : Int) + 1, inc k)]) ?_ ?_ ?_ ?_ ?_ ?_ ?_ ?_; go_must ((focus (first | rfl | (simp [Act.eval, Act.put]; done))); (focus (exact own_tc HO.out)); (focus (refine ⟨_, _, rfl, ?_⟩; exact reads_p1x _ _ ((k : Int) + 1) (inc k))); (focus (exact pc_one _)); (focus (unfold maxLen; omega)); (focus omega); (focus (first | omega | (simp; done) | (simp; omega) | exact blw.size | exact BoxAt.lt (n := w.heap.size) inferInstance)); intro v1 w1 ho1 hg1; haveI : StpB w.heap.size _ w1 := ⟨grown_belowT hg1 (by simp; omega) (fun q hq => (HO.out.lt q hq).1)⟩; have HO1 := hide ho1; clear ho1 hg1)))
          go_roundw
          case rel => exact ⟨k + 1, L ++ [((k : Int) + 1, inc k)], by omega, by go_num, by rw [List.length_append]; simp; omega, by rw [List.length_append, pcs_app]; exact HO1.out, blw⟩
          case measure => simp [intOf]; omega
    · have hlt' : ¬ (k : Int) < 4 := by omega
      have HL := hide (show L.length ≤ 4 by omega)
      go_wp2_with fail
      go_ret
      exact ⟨L, A, c, HL.out, rfl, HO.out, HBW.out⟩
theorem reads_cM (W : World) (m : Nat) (x : Cl) [h : BoxAt W m #[.int .i64 x.n, .int .u64 x.i, .int .u64 x.cid, .int .u64 x.rnd, .int .u64 x.heard, .bool x.gone] 48] : Reads W W.heap.size 6 (some ⟨m, 0, none⟩) 1 (ccs [x]) :=
  ⟨rfl, fun _ => ⟨_, _, rfl, h.lt, fun j u hu => by
    rw [Nat.zero_add, cell?_box]
    have e : ccs [x] = (#[.int .i64 x.n, .int .u64 x.i, .int .u64 x.cid, .int .u64 x.rnd, .int .u64 x.heard, .bool x.gone] : Array Value).toList := rfl
    rw [e] at hu
    simpa using hu⟩⟩
/-- a client of a server's own -/
def ClOf (who : Int) (cc : Nat → Int) (x : Cl) : Prop := 5 ≤ x.n ∧ x.n ≤ 10 ∧ (x.n - 5) % 4 = who ∧ x.i = 1 ∧ x.gone = false ∧ x.cid = cc x.n.toNat ∧ x.rnd = 0
def RetCq (who : Int) (cc : Nat → Int) (w : World) (e : Ending) (w' : World) : Prop := ∃ (l : List Cl) (A : Option Addr) (c : Nat), l.length ≤ 6 ∧ (∀ x ∈ l, ClOf who cc x) ∧ e = .returned (.agg #[.slice A l.length c]) ∧ w'.ownsRow w.heap.size 48 6 (.slice A l.length c) l.length (ccs l) ∧ Below w.heap.size w w'
set_option maxRecDepth 100000 in
set_option maxHeartbeats 4000000 in
theorem clients18_s (n : Nat) (aa : Nat → Ag) (inc cc : Nat → Int) (S V : Value) (who bits : Int) (w : World) (h : BoxAt w n (mcs aa inc cc S V) 77) :
    Calls Tryz.prog 21 #[.pointer (some ⟨n, 0, none⟩), .int .i64 who, .int .i64 bits] w (RetCq who cc w) := by
  haveI := h
  haveI : LtN n w.heap.size := ⟨h.lt⟩
  have TL := hide (fun n i W => lifeM_s n i W)
  clear h
  go_enter Tryz.func21, Tryz.ntmps21
  go_wp2_with fail
  go_loopw [8] (fun i wr => ∃ (k : Nat) (L : List Cl) (A : Option Addr) (c : Nat), 5 ≤ k ∧ k ≤ 11 ∧ i = .int .i64 k ∧ L.length + 5 ≤ k ∧ (∀ x ∈ L, ClOf who cc x) ∧ BoxAt wr w.heap.size #[.slice none 0 0] 30 ∧ BoxAt wr (w.heap.size + 1) #[.slice A L.length c] 30 ∧ wr.ownsRow (w.heap.size + 1 + 1) 48 6 (.slice A L.length c) L.length (ccs L) ∧ Below w.heap.size w wr) (fun i _ => 11 - (intOf i).toNat)
  case atStart => exact ⟨5, [], none, 0, Nat.le_refl _, by omega, rfl, Nat.le_refl _, (fun x hx => by cases hx), inferInstance, inferInstance, World.ownsRow_nil _ _ _ _, blw⟩
  case round =>
    obtain ⟨k, L, A, c, hk5, hk, rfl, hL, hP, hb1, hb2, hown, hbw⟩ := hrel
    haveI : Stp w wr := ⟨hbw⟩
    haveI := hb1
    haveI := hb2
    have HO := hide hown
    have HP := hide hP
    have hsz := hbw.size
    have hs2 := hb2.lt
    haveI : LtN w.heap.size wr.heap.size := ⟨by omega⟩
    haveI : LtN (w.heap.size + 1) wr.heap.size := ⟨by omega⟩
    have HBW := hide hbw
    clear hown hbw hP
    by_cases hlt : k < 11
    · have i0 : (5 : Int) ≤ (k : Int) := by omega
      have i1 : (k : Int) ≤ 10 := by omega
      go_upto_region 5 with fail
      go_cut [26] (fun s26 wx => (∃ b : Bool, s26 = .bool b ∧ (b = true → ((k : Int) - 5) % 4 = who)) ∧ wx = wr)
      case first =>
        by_cases hq : ((k : Int) - 5) % 4 = who
        · have hq2 : (((k : Int) - 5) % 4 == who) = true := beq_iff_eq.2 hq
          have HQ := hide hq
          clear hq
          go_wp2_with fail
          go_meet
          case rel => exact ⟨⟨_, rfl, fun _ => HQ.out⟩, rfl⟩
        · have hq2 : (((k : Int) - 5) % 4 == who) = false := beq_eq_false_iff_ne.2 hq
          clear hq
          go_wp2_with fail
          go_meet
          case rel => exact ⟨⟨false, rfl, fun e => by cases e⟩, rfl⟩
      case rest =>
        obtain ⟨⟨b, rfl, hb⟩, rfl⟩ := hcut
        cases b
        · clear hb
          go_wp2_with fail
          go_roundw
          case rel => exact ⟨k + 1, L, A, c, by omega, by omega, by go_num, by omega, HP.out, inferInstance, inferInstance, HO.out, HBW.out⟩
          case measure => simp [intOf]; omega
        · have HQ := hide (hb rfl)
          clear hb
          have HL := hide (show L.length ≤ 6 by omega)
          have hk11 : k < 11 := hlt
          have HPX := hide (show ∀ x ∈ L ++ [(⟨k, 1, cc k, 0, 0, false⟩ : Cl)], ClOf who cc x from fun x hx => by
            rcases List.mem_append.1 hx with hx | hx
            · exact HP.out x hx
            · rw [List.mem_singleton.1 hx]
              exact ⟨i0, i1, HQ.out, rfl, rfl, by simp, rfl⟩)
          have j0 : (0 : Int) ≤ (k : Int) := by omega
          have j1 : (k : Int) < 11 := by omega
          go_wp2_with fail
          go_region_law (first
              | (go_simp; go_at_call 8; (with_reducible refine (TL.out _ _ _).mono ?_); rintro e w1 ⟨rfl, rfl⟩)
              | (refine step_append_w Tryz.okC rfl (.tmp 28) (.tmp 38) rfl (w.heap.size + 1 + 1) (.slice A L.length c) L.length (ccs L) 1 (ccs [(⟨k, 1, cc k, 0, 0, false⟩ : Cl)]) ?_ ?_ ?_ ?_ ?_ ?_ ?_ ?_; go_must ((focus (first | rfl | (simp [Act.eval, Act.put]; done))); (focus (exact own_tc HO.out)); (focus (refine ⟨_, _, by first | rfl | (simp [Act.eval, Act.put]; done), ?_⟩; exact reads_cM _ _ (⟨k, 1, cc k, 0, 0, false⟩ : Cl))); (focus (exact cc_one _)); (focus (unfold maxLen; omega)); (focus omega); (focus (first | omega | (simp; done) | (simp; omega) | exact blw.size | exact BoxAt.lt (n := w.heap.size) inferInstance)); intro v1 w1 ho1 hg1; haveI : StpB (w.heap.size + 1 + 1) _ w1 := ⟨grown_belowT hg1 (by simp; omega) (fun q hq => (HO.out.lt q hq).1)⟩; obtain ⟨A1, c1, rfl, _, _⟩ := own_slice ho1; have HO1 := hide ho1; clear ho1 hg1)))
          all_goals
            go_wp2_with fail
            go_roundw
            case rel => exact ⟨k + 1, L ++ [(⟨k, 1, cc k, 0, 0, false⟩ : Cl)], A1, c1, by omega, by omega, by go_num, by rw [List.length_append]; simp; omega, HPX.out, inferInstance, by rw [List.length_append]; exact inferInstance, by rw [List.length_append, ccs_app]; exact own_kp HO1.out, blw⟩
            case measure => simp [intOf]; omega
    · have hlt' : ¬ (k : Int) ≤ 10 := by omega
      have HL := hide (show L.length ≤ 6 by omega)
      go_wp2_with fail
      refine bodyPost_ret (v := .agg #[.slice A L.length c]) (by simp [results, Tryz.results21, go_sem]) rfl ?_
      exact ⟨L, A, c, HL.out, HP.out, rfl, own_base (own_kp HO.out) (by omega), blw⟩
end Go.Proofs.YtkglclekieckoaaGreat

namespace Go.Proofs.YtkglclekieckoaaGreat
set_option linter.unusedSimpArgs false
set_option linter.unusedVariables false
set_option linter.unusedSectionVars false
open Go.RowKit

/-- with the one of k -/
def updN {α : Type} (f : Nat → α) (k : Nat) (v : α) : Nat → α := fun m => if m = k then v else f m
theorem updN_at {α : Type} (f : Nat → α) (k : Nat) (v : α) : updN f k v k = v := if_pos rfl
theorem updN_ne {α : Type} (f : Nat → α) {k m : Nat} (v : α) (h : m ≠ k) : updN f k v m = f m := if_neg h
def setsAt : Array Value → Nat → List Value → Array Value
  | cur, _, [] => cur
  | cur, o, v :: l => setsAt (cur.setIfInBounds o v) (o + 1) l
theorem setCells_row (n : Nat) (t : TypeId) : ∀ (l : List Value) (o : Nat) (cur : Array Value) (W : World), W.heap[n]? = some (.cells cur t (0, 0)) → W.setCells n o l = W.setRow n (setsAt cur o l)
  | [], o, cur, W, h => by
    rw [show setsAt cur o [] = cur from rfl, setRow_self W n cur t (0, 0) h]; rfl
  | v :: l, o, cur, W, h => by
    have e : W.setCells n o (v :: l) = (W.setCell ⟨n, o, none⟩ v).setCells n (o + 1) l := rfl
    rw [e, setCell_eq_setRow W n o cur t (0, 0) v h, setCells_row n t l (o + 1) (cur.setIfInBounds o v) _ (setRow_heap _ _ _ _ _ _ h), setRow_setRow]
    rfl
theorem mcs_ag (aa : Nat → Ag) (inc c : Nat → Int) (S V : Value) (k j : Nat) (h : k < 4) (hj : j < 14) : (mcs aa inc c S V)[k * 14 + j]? = (aa k).cs[j]? := by
  have h1 : k = 0 ∨ k = 1 ∨ k = 2 ∨ k = 3 := by omega
  have h2 : j = 0 ∨ j = 1 ∨ j = 2 ∨ j = 3 ∨ j = 4 ∨ j = 5 ∨ j = 6 ∨ j = 7 ∨ j = 8 ∨ j = 9 ∨ j = 10 ∨ j = 11 ∨ j = 12 ∨ j = 13 := by omega
  rcases h1 with rfl | rfl | rfl | rfl <;> rcases h2 with rfl | rfl | rfl | rfl | rfl | rfl | rfl | rfl | rfl | rfl | rfl | rfl | rfl | rfl <;> rfl
theorem setsAt_get : ∀ (l : List Value) (cur : Array Value) (o j : Nat), o + l.length ≤ cur.size → (setsAt cur o l)[j]? = if o ≤ j ∧ j < o + l.length then l[j - o]? else cur[j]?
  | [], cur, o, j, _ => by
    rw [if_neg (by simp)]; rfl
  | v :: l, cur, o, j, h => by
    rw [List.length_cons] at h
    show (setsAt (cur.setIfInBounds o v) (o + 1) l)[j]? = _
    rw [setsAt_get l (cur.setIfInBounds o v) (o + 1) j (by rw [Array.size_setIfInBounds]; omega)]
    by_cases h1 : j = o
    · subst h1
      rw [if_neg (by omega), if_pos (by rw [List.length_cons]; omega), Array.getElem?_setIfInBounds_self_of_lt (by omega), Nat.sub_self]
      rfl
    · rw [Array.getElem?_setIfInBounds_ne (by omega), List.length_cons]
      by_cases h2 : o + 1 ≤ j ∧ j < o + 1 + l.length
      · rw [if_pos h2, if_pos (by omega), show j - o = (j - (o + 1)) + 1 by omega]
        rfl
      · rw [if_neg h2, if_neg (by omega)]
theorem mcs_size (aa : Nat → Ag) (inc c : Nat → Int) (S V : Value) : (mcs aa inc c S V).size = 73 := rfl
theorem mcs_hi (aa bb : Nat → Ag) (inc c : Nat → Int) (S V : Value) (j : Nat) (h : 56 ≤ j) : (mcs aa inc c S V)[j]? = (mcs bb inc c S V)[j]? := by
  by_cases h1 : j < 60
  · obtain ⟨k, rfl⟩ : ∃ k, j = 56 + k := ⟨j - 56, by omega⟩
    rw [mcs_inc0 _ _ _ _ _ _ (by omega), mcs_inc0 _ _ _ _ _ _ (by omega)]
  · by_cases h2 : j < 71
    · obtain ⟨k, rfl⟩ : ∃ k, j = 60 + k := ⟨j - 60, by omega⟩
      rw [mcs_cid0 _ _ _ _ _ _ (by omega), mcs_cid0 _ _ _ _ _ _ (by omega)]
    · by_cases h3 : j = 71
      · subst h3; rfl
      · by_cases h4 : j = 72
        · subst h4; rfl
        · rw [Array.getElem?_eq_none (by rw [mcs_size]; omega), Array.getElem?_eq_none (by rw [mcs_size]; omega)]
theorem mcs_put (aa : Nat → Ag) (inc c : Nat → Int) (S V : Value) (k : Nat) (b : Ag) (h : k < 4) : setsAt (mcs aa inc c S V) (k * 14) b.cs.toList = mcs (updN aa k b) inc c S V := by
  have hl : b.cs.toList.length = 14 := rfl
  apply Array.ext_getElem?
  intro j
  rw [setsAt_get _ _ _ _ (by rw [hl, mcs_size]; omega), hl]
  by_cases hj : j < 56
  · obtain ⟨k', i, rfl, hi, hk⟩ : ∃ k' i, j = k' * 14 + i ∧ i < 14 ∧ k' < 4 := ⟨j / 14, j % 14, by omega, by omega, by omega⟩
    rw [mcs_ag _ _ _ _ _ _ _ hk hi, mcs_ag _ _ _ _ _ _ _ hk hi]
    by_cases e : k' = k
    · subst e
      rw [if_pos (by omega), updN_at, show k' * 14 + i - k' * 14 = i by omega, Array.getElem?_toList]
    · rw [if_neg (by omega), updN_ne _ _ e]
  · rw [if_neg (by omega)]
    exact mcs_hi _ _ _ _ _ _ _ (by omega)
theorem mcs_setInc (aa : Nat → Ag) (inc c : Nat → Int) (S V : Value) (k : Nat) (v : Int) (h : k < 4) : (mcs aa inc c S V).setIfInBounds (56 + k) (.int .u64 v) = mcs aa (updN inc k v) c S V := by
  have h1 : k = 0 ∨ k = 1 ∨ k = 2 ∨ k = 3 := by omega
  rcases h1 with rfl | rfl | rfl | rfl <;> rfl
theorem mcs_setCid (aa : Nat → Ag) (inc c : Nat → Int) (S V : Value) (k : Nat) (v : Int) (h : k < 11) : (mcs aa inc c S V).setIfInBounds (60 + k) (.int .u64 v) = mcs aa inc (updN c k v) S V := by
  have : k = 0 ∨ k = 1 ∨ k = 2 ∨ k = 3 ∨ k = 4 ∨ k = 5 ∨ k = 6 ∨ k = 7 ∨ k = 8 ∨ k = 9 ∨ k = 10 := by omega
  rcases this with rfl | rfl | rfl | rfl | rfl | rfl | rfl | rfl | rfl | rfl | rfl <;> rfl
theorem mcs_setS (aa : Nat → Ag) (inc c : Nat → Int) (S V v : Value) : (mcs aa inc c S V).setIfInBounds 71 v = mcs aa inc c v V := rfl
theorem mcs_setV (aa : Nat → Ag) (inc c : Nat → Int) (S V v : Value) : (mcs aa inc c S V).setIfInBounds 72 v = mcs aa inc c S v := rfl
theorem range_many {w : World} {n : Nat} {aa : Nat → Ag} {inc c : Nat → Int} {S V : Value} {t : TypeId} (k : BoxAt w n (mcs aa inc c S V) t) (who : Nat) (h : who < 4) : w.rangeAt n (who * 14) (aa who).cs.toList := by
  intro j v hv
  have hj : j < 14 := by
    obtain ⟨h1, _⟩ := List.getElem?_eq_some_iff.1 hv
    exact h1
  rw [cell?_box, mcs_ag _ _ _ _ _ _ _ h hj, ← Array.getElem?_toList]
  exact hv
@[go_sem] theorem ldAg_many (w : World) (n : Nat) (aa : Nat → Ag) (inc c : Nat → Int) (S V : Value) (t : TypeId) [k : BoxAt w n (mcs aa inc c S V) t] (who : Nat) (h : who < 4) : (ldAg ⟨n, who * 14, none⟩).run Tryz.prog w = .ok (.agg (aa who).cs) w := by
  have hu := Tryz.undAg
  cases hq : Tryz.prog.underlying 38 with
  | none => rw [hq] at hu; cases hu
  | some d =>
    rw [hq] at hu
    exact run_loadVar_mid w n (who * 14) _ (aa who).cs.toList d (range_many k who h) hq (by simpa using hu) Tryz.infoAg
@[go_sem] theorem stAg_many (w : World) (g : Nat) (aa : Nat → Ag) (inc c : Nat → Int) (S V : Value) (t : TypeId) [k : BoxAt w g (mcs aa inc c S V) t] (who : Nat) (hw : who < 4) (n i rd : Int) (SA LA TA GA MA UA : Option Addr) (sl sc ll lc tl tc gl gc ml mc ul uc : Nat) (dn sp : Bool) (vr vn vi : Int) :
    (stAg ⟨g, who * 14, none⟩ (.agg #[.int .i64 n, .int .u64 i, .int .u64 rd, .slice SA sl sc, .slice LA ll lc, .slice TA tl tc, .slice GA gl gc, .bool dn, .bool sp, .int .u64 vr, .int .i64 vn, .int .u64 vi, .slice MA ml mc, .slice UA ul uc])).run Tryz.prog w = .ok () (w.setRow g (setsAt (mcs aa inc c S V) (who * 14) [.int .i64 n, .int .u64 i, .int .u64 rd, .slice SA sl sc, .slice LA ll lc, .slice TA tl tc, .slice GA gl gc, .bool dn, .bool sp, .int .u64 vr, .int .i64 vn, .int .u64 vi, .slice MA ml mc, .slice UA ul uc])) := by
  show (storeVar 38 ⟨g, who * 14, none⟩ _).run Tryz.prog w = _
  rw [run_storeVar_mid w g (who * 14) _ _ (fun j hj => ?_) Tryz.infoAg (by simp [Value.oneCell']), setCells_row g t _ _ _ _ k.eq]
  have hj : j < 14 := hj
  rw [cell?_box, frozen?_box, mcs_ag _ _ _ _ _ _ _ hw hj]
  have h2 : j = 0 ∨ j = 1 ∨ j = 2 ∨ j = 3 ∨ j = 4 ∨ j = 5 ∨ j = 6 ∨ j = 7 ∨ j = 8 ∨ j = 9 ∨ j = 10 ∨ j = 11 ∨ j = 12 ∨ j = 13 := by omega
  exact ⟨by rcases h2 with rfl | rfl | rfl | rfl | rfl | rfl | rfl | rfl | rfl | rfl | rfl | rfl | rfl | rfl <;> rfl, rfl⟩
end Go.Proofs.YtkglclekieckoaaGreat

namespace Go.Proofs.YtkglclekieckoaaGreat
set_option linter.unusedSimpArgs false
set_option linter.unusedVariables false
set_option linter.unusedSectionVars false
open Go.RowKit

def Vw.vl (x : Vw) : List Value := [.int .u64 x.r, .int .i64 x.n, .int .u64 x.i, .slice x.MA x.ms.length x.mc, .slice x.UA x.us.length x.uc]
theorem Vw.vl_len (x : Vw) : x.vl.length = 5 := rfl
def vws (l : List Vw) : List Value := l.flatMap Vw.vl
theorem vws_len (l : List Vw) : (vws l).length = l.length * 5 := flat_length Vw.vl_len l
theorem vws_app (l m : List Vw) : vws (l ++ m) = vws l ++ vws m := List.flatMap_append
theorem vws_one (l : List Vw) : ∀ u ∈ vws l, u.oneCell' = true := by
  intro u hu
  obtain ⟨p, _, hp⟩ := List.mem_flatMap.1 hu
  simp [Vw.vl] at hp
  rcases hp with rfl | rfl | rfl | rfl | rfl <;> rfl
theorem Tryz.okVq : ElemOk Tryz.prog 75 36 5 72 := elemOk_of (.agg #[.int .u64 0, .int .i64 0, .int .u64 0, .slice none 0 0, .slice none 0 0]) Tryz.underlying75 (by kernel_rfl) rfl (by omega)
/-- the four, what was sent, what was seen -/
structure MW (W : World) (C : List Nat) (n : Nat) (aa : Nat → Ag) (inc cc : Nat → Int) (SA : Option Addr) (sc : Nat) (S : List Pp) (VA : Option Addr) (vc : Nat) (V : List Vw) : Prop where
  bx : BoxAt W n (mcs aa inc cc (.slice SA S.length sc) (.slice VA V.length vc)) 77
  nC : n ∈ C
  lt : ∀ i ∈ C, i < W.heap.size
  so : W.ownsRow 0 41 6 (.slice SA S.length sc) S.length (pps S)
  soC : ∀ b, (Value.slice SA S.length sc).ownBlock = some b → b ∈ C ∧ b ≠ n
  vo : W.ownsRow 0 36 5 (.slice VA V.length vc) V.length (vws V)
  voC : ∀ b, (Value.slice VA V.length vc).ownBlock = some b → b ∈ C ∧ b ≠ n ∧ (Value.slice SA S.length sc).ownBlock ≠ some b
  ag : ∀ k, k < 4 → @Ag.Ok (avo C) W (aa k)
  sp : ∀ p ∈ S, @PpO (avo C) W [] p
  vp : ∀ v ∈ V, @VwO (avo C) W [] v
section
variable {X W : World} {C : List Nat} {n : Nat} {aa : Nat → Ag} {inc cc : Nat → Int} {SA : Option Addr} {sc : Nat} {S : List Pp} {VA : Option Addr} {vc : Nat} {V : List Vw}
theorem MW.below (h : MW X C n aa inc cc SA sc S VA vc V) (hb : Below X.heap.size X W) : MW W C n aa inc cc SA sc S VA vc V :=
  ⟨⟨by rw [hb.block n h.bx.lt]; exact h.bx.eq⟩, h.nC, fun i hi => Nat.lt_of_lt_of_le (h.lt i hi) hb.size, own_same h.so (fun i hi => hb.block i (h.lt i (h.soC i hi).1)), h.soC, own_same h.vo (fun i hi => hb.block i (h.lt i (h.voC i hi).1)), h.voC,
    fun k hk => (h.ag k hk).over (.bel hb), fun p hp => (h.sp p hp).over (.bel hb), fun v hv => (h.vp v hv).over (.bel hb)⟩
/-- the box is written; the rows stand -/
theorem MW.box (h : MW X C n aa inc cc SA sc S VA vc V) (hg : Gr [n] X W) {aa' : Nat → Ag} {inc' cc' : Nat → Int} (hb : BoxAt W n (mcs aa' inc' cc' (.slice SA S.length sc) (.slice VA V.length vc)) 77) (ha : ∀ k, k < 4 → @Ag.Ok (avo C) W (aa' k)) : MW W C n aa' inc' cc' SA sc S VA vc V := by
  have ht : Tr C C X W := .of (hg.mono' (fun i hi => by rw [List.mem_singleton.1 hi]; exact h.nC))
  exact ⟨hb, h.nC, fun i hi => Nat.lt_of_lt_of_le (h.lt i hi) hg.size, own_same h.so (fun i hi => hg.blk i (h.lt i (h.soC i hi).1) (fun hm => (h.soC i hi).2 (List.mem_singleton.1 hm))), h.soC, own_same h.vo (fun i hi => hg.blk i (h.lt i (h.voC i hi).1) (fun hm => (h.voC i hi).2.1 (List.mem_singleton.1 hm))), h.voC,
    ha, fun p hp => (h.sp p hp).over ht, fun v hv => (h.vp v hv).over ht⟩
/-- one more was sent -/
theorem MW.appS {y : Pp} {A1 : Option Addr} {c1 : Nat} (h : MW X C n aa inc cc SA sc S VA vc V) (hy : @PpO (avo C) X [] y) (ho : W.ownsRow 0 41 6 (.slice A1 (S.length + 1) c1) (S.length + 1) (pps S ++ pps [y])) (hg : X.grownBy W (Value.slice SA S.length sc).ownBlock)
    (ha : (Value.slice A1 (S.length + 1) c1).ownBlock = (Value.slice SA S.length sc).ownBlock ∨ (Value.slice A1 (S.length + 1) c1).ownBlock = some X.heap.size) :
    ∃ C', MW (W.setCell ⟨n, 71, none⟩ (.slice A1 (S.length + 1) c1)) C' n aa inc cc A1 c1 (S ++ [y]) VA vc V ∧ Tr C C' X (W.setCell ⟨n, 71, none⟩ (.slice A1 (S.length + 1) c1)) := by
  have hgl := h.bx.lt
  have hn : ∀ b, (Value.slice A1 (S.length + 1) c1).ownBlock = some b → (b ∈ C ∨ b = X.heap.size) ∧ b ≠ n ∧ (Value.slice VA V.length vc).ownBlock ≠ some b := fun b hb => by
    rcases ha with e | e
    · obtain ⟨q1, q2⟩ := h.soC b (e.symm.trans hb)
      exact ⟨.inl q1, q2, fun e' => (h.voC b e').2.2 (e.symm.trans hb)⟩
    · rw [hb] at e
      injection e with e
      subst e
      exact ⟨.inr rfl, by omega, fun hc => by have := h.lt _ (h.voC _ hc).1; omega⟩
  obtain ⟨C', hC⟩ : ∃ C', C' = (Value.slice A1 (S.length + 1) c1).ownBlock.toList ++ C := ⟨_, rfl⟩
  have hin : ∀ i ∈ C, i ∈ C' := fun i hi => by rw [hC]; exact List.mem_append_right _ hi
  have hin2 : ∀ i ∈ C', i ∈ C ∨ (Value.slice A1 (S.length + 1) c1).ownBlock = some i := fun i hi => by
    rw [hC] at hi
    rcases List.mem_append.1 hi with h1 | h1
    · right; simpa using h1
    · exact .inl h1
  have hin3 : ∀ b, (Value.slice A1 (S.length + 1) c1).ownBlock = some b → b ∈ C' := fun b hb => by rw [hC, hb]; simp
  clear hC
  have g1 : Gr C X W := .grown hg (fun k hk => (h.soC k hk).1)
  have t1 : Tr C C' X (W.setCell ⟨n, 71, none⟩ (.slice A1 (S.length + 1) c1)) := ((Tr.of g1).trans (.set W 71 _ h.nC)).re (fun i hi => by
    rcases hin2 i hi with h1 | h1
    · exact .inl h1
    · rcases (hn i h1).1 with h2 | h2
      · exact .inl h2
      · exact .inr (by omega))
  have hgt : (Value.slice SA S.length sc).ownBlock ≠ some n := fun e => (h.soC n e).2 rfl
  have hbx : BoxAt W n (mcs aa inc cc (.slice SA S.length sc) (.slice VA V.length vc)) 77 := ⟨by rw [hg.block n hgl (fun e => hgt e.symm)]; exact h.bx.eq⟩
  have hll : (S ++ [y]).length = S.length + 1 := by simp
  refine ⟨C', ⟨?_, hin n h.nC, ?_, ?_, ?_, ?_, ?_, fun k hk => (h.ag k hk).over t1, ?_, fun v hv => (h.vp v hv).over t1⟩, t1⟩
  · rw [hll]
    exact BoxAt.of_cs (@BoxAt.setAt _ _ _ _ _ _ hbx) (mcs_setS ..)
  · intro i hi
    have := t1.g.size
    rcases hin2 i hi with h1 | h1
    · have := h.lt i h1; omega
    · have := (ho.lt i h1).2
      simpa [World.setCell] using this
  · rw [pps_app, hll]
    exact own_same ho (fun i hi => Below.heap_setCell _ _ _ _ (show i ≠ n from (hn i hi).2.1))
  · intro b hb
    rw [hll] at hb
    exact ⟨hin3 b hb, (hn b hb).2.1⟩
  · exact own_same h.vo (fun i hi => by
      obtain ⟨q1, q2, q3⟩ := h.voC i hi
      rw [Below.heap_setCell _ _ _ _ (show i ≠ n from q2)]
      exact hg.block i (h.lt i q1) (fun e => q3 e.symm))
  · intro b hb
    obtain ⟨q1, q2, q3⟩ := h.voC b hb
    refine ⟨hin b q1, q2, fun e => ?_⟩
    rw [hll] at e
    exact (hn b e).2.2 hb
  · intro p hp
    rcases List.mem_append.1 hp with hp | hp
    · exact (h.sp p hp).over t1
    · rw [List.mem_singleton.1 hp]; exact hy.over t1
/-- one more view was made -/
theorem MW.appV {y : Vw} {A1 : Option Addr} {c1 : Nat} (h : MW X C n aa inc cc SA sc S VA vc V) (hy : @VwO (avo C) X [] y) (ho : W.ownsRow 0 36 5 (.slice A1 (V.length + 1) c1) (V.length + 1) (vws V ++ vws [y])) (hg : X.grownBy W (Value.slice VA V.length vc).ownBlock)
    (ha : (Value.slice A1 (V.length + 1) c1).ownBlock = (Value.slice VA V.length vc).ownBlock ∨ (Value.slice A1 (V.length + 1) c1).ownBlock = some X.heap.size) :
    ∃ C', MW (W.setCell ⟨n, 72, none⟩ (.slice A1 (V.length + 1) c1)) C' n aa inc cc SA sc S A1 c1 (V ++ [y]) ∧ Tr C C' X (W.setCell ⟨n, 72, none⟩ (.slice A1 (V.length + 1) c1)) := by
  have hgl := h.bx.lt
  have hn : ∀ b, (Value.slice A1 (V.length + 1) c1).ownBlock = some b → (b ∈ C ∨ b = X.heap.size) ∧ b ≠ n ∧ (Value.slice SA S.length sc).ownBlock ≠ some b := fun b hb => by
    rcases ha with e | e
    · obtain ⟨q1, q2, q3⟩ := h.voC b (e.symm.trans hb)
      exact ⟨.inl q1, q2, q3⟩
    · rw [hb] at e
      injection e with e
      subst e
      exact ⟨.inr rfl, by omega, fun hc => by have := h.lt _ (h.soC _ hc).1; omega⟩
  obtain ⟨C', hC⟩ : ∃ C', C' = (Value.slice A1 (V.length + 1) c1).ownBlock.toList ++ C := ⟨_, rfl⟩
  have hin : ∀ i ∈ C, i ∈ C' := fun i hi => by rw [hC]; exact List.mem_append_right _ hi
  have hin2 : ∀ i ∈ C', i ∈ C ∨ (Value.slice A1 (V.length + 1) c1).ownBlock = some i := fun i hi => by
    rw [hC] at hi
    rcases List.mem_append.1 hi with h1 | h1
    · right; simpa using h1
    · exact .inl h1
  have hin3 : ∀ b, (Value.slice A1 (V.length + 1) c1).ownBlock = some b → b ∈ C' := fun b hb => by rw [hC, hb]; simp
  clear hC
  have g1 : Gr C X W := .grown hg (fun k hk => (h.voC k hk).1)
  have t1 : Tr C C' X (W.setCell ⟨n, 72, none⟩ (.slice A1 (V.length + 1) c1)) := ((Tr.of g1).trans (.set W 72 _ h.nC)).re (fun i hi => by
    rcases hin2 i hi with h1 | h1
    · exact .inl h1
    · rcases (hn i h1).1 with h2 | h2
      · exact .inl h2
      · exact .inr (by omega))
  have hgt : (Value.slice VA V.length vc).ownBlock ≠ some n := fun e => (h.voC n e).2.1 rfl
  have hbx : BoxAt W n (mcs aa inc cc (.slice SA S.length sc) (.slice VA V.length vc)) 77 := ⟨by rw [hg.block n hgl (fun e => hgt e.symm)]; exact h.bx.eq⟩
  have hll : (V ++ [y]).length = V.length + 1 := by simp
  refine ⟨C', ⟨?_, hin n h.nC, ?_, ?_, ?_, ?_, ?_, fun k hk => (h.ag k hk).over t1, fun p hp => (h.sp p hp).over t1, ?_⟩, t1⟩
  · rw [hll]
    exact BoxAt.of_cs (@BoxAt.setAt _ _ _ _ _ _ hbx) (mcs_setV ..)
  · intro i hi
    have := t1.g.size
    rcases hin2 i hi with h1 | h1
    · have := h.lt i h1; omega
    · have := (ho.lt i h1).2
      simpa [World.setCell] using this
  · exact own_same h.so (fun i hi => by
      obtain ⟨q1, q2⟩ := h.soC i hi
      rw [Below.heap_setCell _ _ _ _ (show i ≠ n from q2)]
      exact hg.block i (h.lt i q1) (fun e => (h.voC i e.symm).2.2 hi))
  · intro b hb
    obtain ⟨q1, q2⟩ := h.soC b hb
    exact ⟨hin b q1, q2⟩
  · rw [vws_app, hll]
    exact own_same ho (fun i hi => Below.heap_setCell _ _ _ _ (show i ≠ n from (hn i hi).2.1))
  · intro b hb
    rw [hll] at hb
    exact ⟨hin3 b hb, (hn b hb).2.1, (hn b hb).2.2⟩
  · intro v hv
    rcases List.mem_append.1 hv with hv | hv
    · exact (h.vp v hv).over t1
    · rw [List.mem_singleton.1 hv]; exact hy.over t1
end
end Go.Proofs.YtkglclekieckoaaGreat

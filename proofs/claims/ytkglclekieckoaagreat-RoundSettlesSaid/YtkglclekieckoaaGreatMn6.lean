/-
  RoundOne: contract: caucusref09.Copy: a proposal in new rows of its own.
-/
import Derived.Test.YtkglclekieckoaaGreatRd5
import Derived.Test.YtkglclekieckoaaGreatCopy4
import Derived.Test.YtkglclekieckoaaGreatMn3
import Derived.Test.YtkglclekieckoaaGreatOne4
import Derived.Deep.CutBlock
import Derived.IntWalk
import Derived.Test.YtkglclekieckoaaGreatRu16
import Derived.Test.YtkglclekieckoaaGreatSt5
import Derived.Test.YtkglclekieckoaaGreatMn4
namespace Go.Proofs.YtkglclekieckoaaGreat
set_option linter.unusedSimpArgs false
set_option linter.unusedVariables false
set_option linter.unusedSectionVars false
open Go.RowKit

/-- a proposal in new rows -/
def RetPq (w : World) (x : Pp) (e : Ending) (w' : World) : Prop := ∃ A1 c1 A2 c2 A3 c3, e = .returned (.agg #[.int .i64 x.n, .int .u64 x.i, .int .u64 x.rd, .slice A1 x.ss.length c1, .slice A2 x.cs.length c2, .slice A3 x.us.length c3]) ∧
  w'.ownsRow w.heap.size 25 2 (.slice A1 x.ss.length c1) x.ss.length (pcs x.ss) ∧ w'.ownsRow w.heap.size 25 2 (.slice A2 x.cs.length c2) x.cs.length (pcs x.cs) ∧ w'.ownsRow w.heap.size 22 1 (.slice A3 x.us.length c3) x.us.length (ucs x.us) ∧ Below w.heap.size w w'
set_option maxRecDepth 100000 in
set_option maxHeartbeats 2000000 in
theorem refPCopyQ_s (x : Pp) (w : World) (h : x.Ok w) : Calls Tryz.prog 26 #[x.ag] w (RetPq w x) := by
  have hsl := h.sl
  have hcl := h.cl
  have hul := h.ul
  haveI : Src w x.SA x.ss.length 2 (pcs x.ss) := ⟨h.s⟩
  haveI : Src w x.CA x.cs.length 2 (pcs x.cs) := ⟨h.c⟩
  haveI : Src w x.UA x.us.length 1 (ucs x.us) := ⟨h.u⟩
  clear h
  go_enter Tryz.func26, Tryz.ntmps26
  go_wp2_with (first
    | (at_builtin; refine wpList_append_w Tryz.okP rfl (.tmp 3) (.tmp 5) rfl (w.heap.size + 1 + 1) (.slice (some ⟨w.heap.size + 1 + 1, 0, none⟩) 0 0) 0 [] x.ss.length (pcs x.ss) ?_ ?_ ?_ ?_ ?_ ?_ ?_ ?_; go_must ((focus (first | rfl | (simp [Act.eval, Act.put]; done))); (focus (exact own_emptyP' _ (w.heap.size + 1 + 1) (by simp))); (focus (refine ⟨_, _, rfl, ?_⟩; exact src)); (focus (exact pc_one _)); (focus (unfold maxLen; omega)); (focus omega); (focus (first | omega | (simp; done) | (simp; omega) | exact blw.size | exact BoxAt.lt (n := w.heap.size) inferInstance)); intro v1 w1 ho1 hg1; rw [Nat.zero_add, List.nil_append] at ho1; haveI : StpB (w.heap.size + 1 + 1) _ w1 := ⟨grown_belowB hg1 (by simp) (fun k hk => by have e : w.heap.size + 1 + 1 = k := Option.some.inj hk; omega)⟩; have z1 := hg1.size; simp at z1; haveI : LtN w.heap.size w1.heap.size := ⟨by omega⟩; haveI : LtN (w.heap.size + 1) w1.heap.size := ⟨by omega⟩; haveI : LeN w.heap.size w1.heap.size := ⟨by omega⟩; obtain ⟨A1, c1, rfl, _, _⟩ := own_slice ho1; have O1 := hide ho1; clear ho1 hg1))
    | (at_builtin; refine wpList_append_w Tryz.okP rfl (.tmp 8) (.tmp 10) rfl w1.heap.size (.slice (some ⟨w1.heap.size, 0, none⟩) 0 0) 0 [] x.cs.length (pcs x.cs) ?_ ?_ ?_ ?_ ?_ ?_ ?_ ?_; go_must ((focus (first | rfl | (simp [Act.eval, Act.put]; done))); (focus (exact own_emptyP' _ w1.heap.size (by simp [World.setCell]))); (focus (refine ⟨_, _, rfl, ?_⟩; exact src)); (focus (exact pc_one _)); (focus (unfold maxLen; omega)); (focus omega); (focus (first | omega | (simp; done) | (simp; omega) | exact blw.size | exact BoxAt.lt (n := w.heap.size) inferInstance)); intro v2 w2 ho2 hg2; rw [Nat.zero_add, List.nil_append] at ho2; haveI : StpB w1.heap.size _ w2 := ⟨grown_belowB hg2 (by simp [World.setCell]) (fun k hk => by have e : w1.heap.size = k := Option.some.inj hk; omega)⟩; have z2 := hg2.size; simp [World.setCell] at z2; haveI : LtN w.heap.size w2.heap.size := ⟨by omega⟩; haveI : LtN (w.heap.size + 1) w2.heap.size := ⟨by omega⟩; haveI : LeN w.heap.size w2.heap.size := ⟨by omega⟩; haveI : LeN w1.heap.size w2.heap.size := ⟨by omega⟩; obtain ⟨A2, c2, rfl, _, _⟩ := own_slice ho2; have O2 := hide ho2; clear ho2 hg2))
    | (at_builtin; refine wpList_append_w Tryz.okU rfl (.tmp 13) (.tmp 15) rfl w2.heap.size (.slice (some ⟨w2.heap.size, 0, none⟩) 0 0) 0 [] x.us.length (ucs x.us) ?_ ?_ ?_ ?_ ?_ ?_ ?_ ?_; go_must ((focus (first | rfl | (simp [Act.eval, Act.put]; done))); (focus (exact own_emptyU' _ w2.heap.size (by simp [World.setCell]))); (focus (refine ⟨_, _, rfl, ?_⟩; exact src)); (focus (exact uc_one _)); (focus (unfold maxLen; omega)); (focus omega); (focus (first | omega | (simp; done) | (simp; omega) | exact blw.size | exact BoxAt.lt (n := w.heap.size) inferInstance)); intro v3 w3 ho3 hg3; rw [Nat.zero_add, List.nil_append] at ho3; haveI : StpB w2.heap.size _ w3 := ⟨grown_belowB hg3 (by simp [World.setCell]) (fun k hk => by have e : w2.heap.size = k := Option.some.inj hk; omega)⟩; have z3 := hg3.size; simp [World.setCell] at z3; obtain ⟨A3, c3, rfl, _, _⟩ := own_slice ho3; have O3 := hide ho3; clear ho3 hg3)))
  refine bodyPost_ret (v := .agg #[.int .i64 x.n, .int .u64 x.i, .int .u64 x.rd, .slice A1 x.ss.length c1, .slice A2 x.cs.length c2, .slice A3 x.us.length c3]) (by simp [results, Tryz.results26, go_sem]) rfl ?_
  exact ⟨A1, c1, A2, c2, A3, c3, rfl, own_base (own_kp O1.out) (by omega), own_base (own_kp O2.out) (by omega), own_base (own_kp O3.out) (by omega), blw⟩
end Go.Proofs.YtkglclekieckoaaGreat

namespace Go.Proofs.YtkglclekieckoaaGreat
set_option linter.unusedSimpArgs false
set_option linter.unusedVariables false
set_option linter.unusedSectionVars false
open Go.RowKit

instance Sz.row (w : World) (m : Nat) (cs : Array Value) (n : Nat) [h : Sz w n] : Sz (w.setRow m cs) n := ⟨by rw [setRow_size]; exact h.eq⟩
instance InW.row (w : World) (m : Nat) (cs : Array Value) (n : Nat) [h : InW n w] : InW n (w.setRow m cs) := ⟨by rw [setRow_size]; exact h.lt⟩
theorem grRow {C : List Nat} (X : World) {m : Nat} (cs : Array Value) (h : m ∈ C) : Gr C X (X.setRow m cs) := ⟨rfl, rfl, rfl, by rw [setRow_size]; exact Nat.le_refl _, fun j _ hc => setRow_other _ _ _ _ (fun e => hc (by rw [e]; exact h))⟩
def ag0 : Ag := ⟨0, 0, 0, none, 0, [], none, 0, [], none, 0, [], none, 0, [], false, false, vw0⟩
/-- what begun hands back -/
def RetBg (w : World) (e : Ending) (w' : World) : Prop := ∃ (n : Nat) (aa : Nat → Ag) (inc : Nat → Int), e = .returned (.pointer (some ⟨n, 0, none⟩)) ∧ w.heap.size ≤ n ∧ (∀ k, k < 4 → (aa k).br = newA (k + 1) 1 ∧ inc k = 1) ∧ MW w' [n] n aa inc (fun _ => 0) none 0 [] none 0 [] ∧ Below w.heap.size w w'
set_option maxRecDepth 100000 in
set_option maxHeartbeats 8000000 in
theorem begun18_s (w : World) : Calls Tryz.prog 18 #[] w (RetBg w) := by
  have TL := hide (fun n i W => lifeM_s n i W)
  go_enter Tryz.func18, Tryz.ntmps18
  go_wp2_with fail
  go_loopw [2] (fun i wr => ∃ (m : Nat) (aa : Nat → Ag) (inc : Nat → Int), m ≤ 4 ∧ i = .int .i64 m ∧ (∀ k, k < m → (aa k).br = newA (k + 1) 1 ∧ inc k = 1 ∧ @Ag.Ok (avo [w.heap.size]) wr (aa k)) ∧ BoxAt wr w.heap.size (mcs aa inc (fun _ => 0) (.slice none 0 0) (.slice none 0 0)) 77 ∧ Below w.heap.size w wr) (fun i _ => 4 - (intOf i).toNat)
  case atStart => exact ⟨0, fun _ => ag0, fun _ => 0, Nat.zero_le _, rfl, (fun k hk => by omega), BoxAt.of_cs (show BoxAt _ w.heap.size _ 77 from inferInstance) rfl, blw⟩
  case round =>
    obtain ⟨m, aa, inc, hm, rfl, hall, hb, hB⟩ := hrel
    haveI := hb
    haveI : Stp w wr := ⟨hB⟩
    have HALL := hide hall
    have HB := hide hB
    have zb := hb.lt
    clear hall hB
    by_cases hlt : m < 4
    · have i0 : (0 : Int) ≤ (m : Int) := by omega
      have i1 : (m : Int) < 4 := by omega
      go_upto_region 6 with fail
      obtain ⟨w5, hw5⟩ : ∃ w5, w5 = wr.setCell ⟨w.heap.size, 56 + m, none⟩ (.int .u64 1) := ⟨_, rfl⟩
      rw [← hw5]
      have hb5 : BoxAt w5 w.heap.size (mcs aa (updN inc m 1) (fun _ => 0) (.slice none 0 0) (.slice none 0 0)) 77 := by
        rw [hw5]
        exact BoxAt.of_cs (show BoxAt _ w.heap.size _ 77 from inferInstance) (mcs_setInc _ _ _ _ _ _ _ hlt)
      haveI := hb5
      have HT5 := hide (show Tr [w.heap.size] [w.heap.size] wr w5 by rw [hw5]; exact .set wr _ _ (List.mem_singleton.2 rfl))
      have HB5 := hide (show Below w.heap.size w w5 by rw [hw5]; exact HB.out.setCell (p := ⟨w.heap.size, 56 + m, none⟩) (Nat.le_refl _) _)
      haveI : Stp w w5 := ⟨HB5.out⟩
      have z5 := hb5.lt
      have TN := hide (fun i W (hb : Below w5.heap.size w5 W) => @new18_s (avo [w.heap.size]) i 1 W (fun j hj => by rw [List.mem_singleton.1 hj]; have := hb.size; omega))
      have hw1 : IntKind.i64.wrap ((m : Int) + 1) = (m : Int) + 1 := IntWalk.i64_in _ (by omega)
      clear hw5 hb
      go_region_held3 (fun _ => True) (trivial)
        (first
          | (go_at_call 8; (with_reducible refine (TL.out _ _ _).mono ?_); rintro e w6 ⟨rfl, rfl⟩)
          | (go_at_call 10; (with_reducible refine (TN.out _ _ ?_).mono ?_); (focus (exact blw)); rintro e w7 ⟨a0, ha0, rfl, hok, hb7⟩; haveI : Stp _ w7 := ⟨hb7⟩; have HA0 := hide ha0; have HOK := hide hok; clear ha0 hok hb7)
          | fail)
      all_goals
        clear hw1
        rw [mcs_put aa _ _ _ _ m a0 hlt]
        have HTW := hide (show Tr [w.heap.size] [w.heap.size] w7 (w7.setRow w.heap.size (mcs (updN aa m a0) (updN inc m 1) (fun _ => 0) (.slice none 0 0) (.slice none 0 0))) from .of (grRow w7 _ (List.mem_singleton.2 rfl)))
        have HR := hide (show ∀ k, k < m + 1 → (updN aa m a0 k).br = newA (k + 1) 1 ∧ updN inc m 1 k = 1 ∧ @Ag.Ok (avo [w.heap.size]) (w7.setRow w.heap.size (mcs (updN aa m a0) (updN inc m 1) (fun _ => 0) (.slice none 0 0) (.slice none 0 0))) (updN aa m a0 k) from fun k hk => by
          by_cases e : k = m
          · subst e
            rw [updN_at, updN_at]
            exact ⟨HA0.out, rfl, HOK.out.over HTW.out⟩
          · rw [updN_ne _ _ e, updN_ne _ _ e]
            obtain ⟨r1, r2, r3⟩ := HALL.out k (by omega)
            exact ⟨r1, r2, (r3.over HT5.out).over ((Tr.bel (blw (a := w5) (W := w7))).trans HTW.out)⟩)
        go_wp2_with fail
        go_roundw
        case rel => exact ⟨m + 1, updN aa m a0, updN inc m 1, by omega, by go_num, HR.out, inferInstance, blw⟩
        case measure => simp [intOf]; omega
    · have e4 : m = 4 := by omega
      subst e4
      go_wp2_with fail
      go_ret
      refine ⟨w.heap.size, aa, inc, rfl, Nat.le_refl _, fun k hk => ⟨(HALL.out k hk).1, (HALL.out k hk).2.1⟩, ?_, HB.out⟩
      exact ⟨hb, List.mem_singleton.2 rfl, fun i hi => by rw [List.mem_singleton.1 hi]; exact zb, World.ownsRow_nil _ _ _ _, (fun b hb => by cases hb), World.ownsRow_nil _ _ _ _, (fun b hb => by cases hb), fun k hk => (HALL.out k hk).2.2, (fun p hp => by cases hp), fun p hp => by cases hp⟩
end Go.Proofs.YtkglclekieckoaaGreat

namespace Go.Proofs.YtkglclekieckoaaGreat
set_option linter.unusedSimpArgs false
set_option linter.unusedVariables false
set_option linter.unusedSectionVars false
open Go.RowKit

/-- at, told outright -/
def atI (x : Int) (n : Nat) : Nat := ((x.tmod n + n).tmod n).toNat
theorem atI_lt (x : Int) (n : Nat) (h0 : 0 < n) : atI x n < n := by
  have h2 : (0 : Int) < n := by omega
  have h7 := Int.tmod_lt_of_pos (x.tmod n + n) h2
  unfold atI
  omega
set_option maxRecDepth 100000 in
set_option maxHeartbeats 4000000 in
theorem at18_e (x : Int) (n : Nat) (w : World) (h0 : 0 < n) (h1 : n ≤ 1000) (hx : -9223372036854775808 ≤ x ∧ x ≤ 9223372036854775807) :
    Calls Tryz.prog 25 #[.int .i64 x, .int .i64 n] w (fun e w' => e = .returned (.int .i64 (atI x n)) ∧ w' = w) := by
  have q1 : ((n : Int) == 0) = false := by rw [beq_eq_false_iff_ne]; omega
  go_enter Tryz.func25, Tryz.ntmps25
  go_wp2
  go_ret
  have h2 : (0 : Int) < n := by omega
  have h3 := Int.tmod_lt_of_pos x h2
  have h4 : -(n : Int) < x.tmod n := by
    rcases Int.le_total 0 x with h | h
    · rw [Int.tmod_eq_emod_of_nonneg h]; have := Int.emod_nonneg x (show (n : Int) ≠ 0 by omega); omega
    · rw [show x = -(-x) by omega, Int.neg_tmod]; have := Int.tmod_lt_of_pos (-x) h2; omega
  have h5 : wrap64 (x.tmod n + n) = x.tmod n + n := by unfold wrap64; omega
  have h6 : 0 ≤ (x.tmod n + n).tmod n := by rw [Int.tmod_eq_emod_of_nonneg (by omega)]; exact Int.emod_nonneg _ (by omega)
  refine ⟨?_, rfl⟩
  unfold atI
  rw [h5, Int.toNat_of_nonneg h6]
  rfl
/-- what step leaves -/
def RetSt (w : World) (C : List Nat) (n : Nat) (aa : Nat → Ag) (inc cc : Nat → Int) (S : List Pp) (V : List Vw) (e : Ending) (w' : World) : Prop :=
  ∃ (C' : List Nat) (aa' : Nat → Ag) (inc' cc' : Nat → Int) (SA : Option Addr) (sc : Nat) (S' : List Pp) (VA : Option Addr) (vc : Nat) (V' : List Vw), e = .returned (.bool true) ∧ MW w' C' n aa' inc' cc' SA sc S' VA vc V' ∧ OneS aa' inc' cc' S' V' ∧ S'.length ≤ S.length + 1 ∧ V'.length ≤ V.length + 1 ∧ (∀ k, k < 4 → inc' k ≤ inc k + 1) ∧ Tr C C' w w' ∧ ∀ B, BndS B aa cc S → B + 2 < um → BndS (B + 2) aa' cc' S'
/-- the blocks of agreements and turns that lie from a on -/
def bigAt (W : World) (i : Nat) : Bool := match W.heap[i]? with
  | some (.cells _ t _) => t == 38 || t == 43
  | _ => false
/-- how great what comes of a turn may be -/
def MBx (aa : Nat → Ag) (cc : Nat → Int) (S : List Pp) (b : Ag) (u : Tu) : Prop := ∀ B, BndS B aa cc S → B + 2 < um → MB (B + 2) (B + 2) (ofN cc) b.br u.br
def DFb (C : List Nat) (B : Nat) (W : World) : List Nat := C ++ (List.range W.heap.size).filter fun i => decide (B ≤ i) && bigAt W i
theorem mem_DF {C : List Nat} {B : Nat} {W : World} {i : Nat} : i ∈ DFb C B W ↔ i ∈ C ∨ (i < W.heap.size ∧ B ≤ i ∧ bigAt W i = true) := by
  unfold DFb
  rw [List.mem_append, List.mem_filter, List.mem_range, Bool.and_eq_true, decide_eq_true_eq]
theorem DFb.lt {C : List Nat} {B : Nat} {W : World} (h : ∀ i ∈ C, i < W.heap.size) : ∀ i ∈ DFb C B W, i < W.heap.size := fun i hi => by
  rcases mem_DF.1 hi with h1 | h1
  · exact h i h1
  · exact h1.1
theorem DFb.tr {C : List Nat} {a W : World} (h : Below a.heap.size a W) : Tr C (DFb C a.heap.size W) a W := (Tr.bel h).re fun i hi => by
  rcases mem_DF.1 hi with h1 | h1
  · exact .inl h1
  · exact .inr h1.2.1
theorem DFb.ag {C : List Nat} {B n : Nat} {W : World} {cs : Array Value} (h : BoxAt W n cs 38) (hB : B ≤ n) : n ∈ DFb C B W := mem_DF.2 (.inr ⟨h.lt, hB, by unfold bigAt; rw [h.eq]; rfl⟩)
theorem DFb.tu {C : List Nat} {B n : Nat} {W : World} {cs : Array Value} (h : BoxAt W n cs 43) (hB : B ≤ n) : n ∈ DFb C B W := mem_DF.2 (.inr ⟨h.lt, hB, by unfold bigAt; rw [h.eq]; rfl⟩)
/-- rows of lives or numbers of one's own lie in none of them -/
theorem DFb.row {C : List Nat} {B k n c : Nat} {W : World} {A : Option Addr} {e : TypeId} {xs : List Value} (h : W.ownsRow B e k (.slice A n c) n xs) (hC : ∀ i ∈ C, i < B) (he : (e == 38 || e == 43) = false) : RO W (DFb C B W) k A n xs := by
  refine ⟨Reads.of_own h, fun hn a ha hm => ?_⟩
  obtain ⟨g, cap, cur, hv, hb, hg, _⟩ := h.2.resolve_left (by rintro ⟨h0, _⟩; omega)
  rw [ha] at hv
  injection hv with e1
  injection e1 with e1
  subst e1
  rcases mem_DF.1 hm with h1 | h1
  · have := hC _ h1
    simp only at this
    omega
  · have h2 := h1.2.2
    unfold bigAt at h2
    simp only at h2
    rw [hg] at h2
    simp only at h2
    rw [he] at h2
    cases h2
end Go.Proofs.YtkglclekieckoaaGreat

namespace Go.Proofs.YtkglclekieckoaaGreat
set_option linter.unusedSimpArgs false
set_option linter.unusedVariables false
set_option linter.unusedSectionVars false
open Go.RowKit

set_option maxRecDepth 100000 in
set_option maxHeartbeats 16000000 in
set_option synthInstance.maxSize 1000 in
theorem step18_4 (n : Nat) (C : List Nat) (aa : Nat → Ag) (inc cc : Nat → Int) (SA : Option Addr) (sc : Nat) (S : List Pp) (VA : Option Addr) (vc : Nat) (V : List Vw) (sw swho swh sset scl : Int) (w : World)
    (h : MW w C n aa inc cc SA sc S VA vc V) (hO : OneS aa inc cc S V) (hI : ∀ k, k < 4 → inc k ≤ 1000) (b1 : -9223372036854775808 ≤ sw ∧ sw ≤ 9223372036854775807) (b2 : -9223372036854775808 ≤ swho ∧ swho ≤ 9223372036854775807) (hk : atI sw 5 = 4) :
    Calls Tryz.prog 19 #[.pointer (some ⟨n, 0, none⟩), .agg #[.int .i64 sw, .int .i64 swho, .int .i64 swh, .int .i64 sset, .int .i64 scl]] w (RetSt w C n aa inc cc S V) := by
  haveI hbn := h.bx
  have hn := h.bx.lt
  haveI : LtN n w.heap.size := ⟨hn⟩
  have HW := hide h
  have HO := hide hO
  have TA4 := hide (fun W => (by exact at18_e swho 4 W (by omega) (by omega) b2 : Calls Tryz.prog 25 #[.int .i64 swho, .int .i64 4] W (fun e w' => e = .returned (.int .i64 (atI swho 4)) ∧ w' = W)))
  have TA5 := hide (fun W => (by have := at18_e sw 5 W (by omega) (by omega) b1; rw [hk] at this; exact this : Calls Tryz.prog 25 #[.int .i64 sw, .int .i64 5] W (fun e w' => e = .returned (.int .i64 4) ∧ w' = W)))
  have TL := hide (fun n i W => lifeM_s n i W)
  have hw := atI_lt swho 4 (by omega)
  generalize atI swho 4 = who at hw TA4
  have i0 : (0 : Int) ≤ (who : Int) := by omega
  have i1 : (who : Int) < 4 := by omega
  have hi1 := hI who hw
  have hi0 : 1 ≤ inc who := hO.i1 who hw
  clear h hO b1 b2 hk hI
  go_enter Tryz.func19, Tryz.ntmps19
  go_wp2_with fail
  (with_reducible refine (TA4.out _).mono ?_)
  rintro e w2 ⟨rfl, rfl⟩
  go_wp2_with fail
  (with_reducible refine (TA5.out _).mono ?_)
  rintro e w2 ⟨rfl, rfl⟩
  go_upto_region 7 with fail
  go_cut [] (fun wx => BoxAt wx n (mcs aa (updN inc who (inc who + 1)) cc (.slice SA S.length sc) (.slice VA V.length vc)) 77 ∧ Gr [n] w wx)
  case first =>
    go_region
    all_goals
      go_wp2_with fail
      go_meet
      case rel => exact ⟨BoxAt.of_cs inferInstance (mcs_setInc _ _ _ _ _ _ _ hw), (Trc.h (C := [n]) (a := w)).g⟩
  case rest =>
    obtain ⟨hb5, hg5⟩ := hcut
    obtain ⟨wb, rfl⟩ : ∃ wb, wb = wc := ⟨wc, rfl⟩
    haveI := hb5
    have z5 := hb5.lt
    have HG5 := hide hg5
    have hCw : ∀ i ∈ C, i < wb.heap.size := fun i hi => Nat.lt_of_lt_of_le (HW.out.lt i hi) HG5.out.size
    have TN := hide (fun i W (hb : Below wb.heap.size wb W) => @new18_s (avo C) i (inc who + 1) W (fun j hj => Nat.lt_of_lt_of_le (hCw j hj) hb.size))
    clear hg5 hCw
    have hw1 : IntKind.i64.wrap ((who : Int) + 1) = (who : Int) + 1 := IntWalk.i64_in _ (by omega)
    go_upto_region 8 with fail
    go_cut [] (fun wx => ∃ a0 : Ag, BoxAt wx n (mcs (updN aa who a0) (updN inc who (inc who + 1)) cc (.slice SA S.length sc) (.slice VA V.length vc)) 77 ∧ a0.br = newA (who + 1) (inc who + 1) ∧ @Ag.Ok (avo C) wx a0 ∧ Gr [n] wb wx)
    case first =>
      go_region_held3 (fun w' => w'.cell? ⟨n, 56 + who, none⟩ = some (.int .u64 (inc who + 1))) ((first | (rw [cell?_box, mcs_inc _ _ _ _ _ _ hw, updN_at]) | (rw [mcs_put aa _ _ _ _ who a0 hw, cell?_box, mcs_inc _ _ _ _ _ _ hw, updN_at])))
        (first
          | (go_at_call 8; (with_reducible refine (TL.out _ _ _).mono ?_); rintro e w6 ⟨rfl, rfl⟩)
          | (go_at_call 10; (with_reducible refine (TN.out _ _ ?_).mono ?_); (focus (exact blw)); rintro e w7 ⟨a0, ha0, rfl, hok, hb7⟩; haveI : Stp _ w7 := ⟨hb7⟩; have HA0 := hide ha0; have HOK := hide hok; clear ha0 hok hb7)
          | fail)
      all_goals
        clear hw1
        rw [mcs_put aa _ _ _ _ who a0 hw]
        go_wp2_with fail
        go_meet
        case rel => exact ⟨a0, inferInstance, HA0.out, HOK.out.over (.of (grRow _ _ HW.out.nC)), (Trc.h (C := [n]) (a := wb)).g⟩
    case rest =>
      obtain ⟨a0, hb6, ha0, hok, hg6⟩ := hcut
      have HB6 := hide hb6
      have HA0 := hide ha0
      have HOK := hide hok
      have HGX := hide (HG5.out.trans hg6)
      clear hb6 ha0 hok hg6
      go_wp2_with fail
      go_ret
      have ht : Tr C C w wc := .of (HGX.out.mono' (fun i hi => by rw [List.mem_singleton.1 hi]; exact HW.out.nC))
      refine ⟨C, updN aa who a0, updN inc who (inc who + 1), cc, SA, sc, S, VA, vc, V, rfl, HW.out.box HGX.out HB6.out (fun k hk => ?_), HO.out.life hw HA0.out, Nat.le_succ _, Nat.le_succ _, (fun k hk => ?_), ht, fun B hB hb => ?_⟩
      · by_cases e : k = who
        · subst e; rw [updN_at]; exact HOK.out
        · rw [updN_ne _ _ e]; exact (HW.out.ag k hk).over ht
      · by_cases e : k = who
        · subst e; rw [updN_at]; omega
        · rw [updN_ne _ _ e]; omega
      · have h1 := HA0.out
        refine ⟨fun k hk => ?_, fun k hk => ?_, fun m => Int.le_trans (hB.ck m) (by omega), fun g hg => Int.le_trans (hB.sn g hg) (by omega), by have := hB.b0; omega, hB.cn⟩
        · by_cases e : k = who
          · subst e; rw [updN_at]; exact (congrArg Ag.sp h1 : a0.br.sp = _)
          · rw [updN_ne _ _ e]; exact hB.sp k hk
        · by_cases e : k = who
          · subst e
            rw [updN_at]
            have h2 : a0.rd = 0 := (congrArg Ag.rd h1 : a0.br.rd = _)
            have := hB.b0
            omega
          · rw [updN_ne _ _ e]; exact Int.le_trans (hB.rd k hk) (by omega)
end Go.Proofs.YtkglclekieckoaaGreat

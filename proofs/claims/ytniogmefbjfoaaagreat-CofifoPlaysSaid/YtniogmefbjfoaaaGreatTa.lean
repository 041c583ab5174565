/-
  Layer 16: contract: takeData.
-/
import Derived.Test.YtniogmefbjfoaaaGreatTf
import Derived.Test.YtniogmefbjfoaaaGreatPk3
import Derived.Test.YtniogmefbjfoaaaGreatPkL
namespace Go.Proofs.YtniogmefbjfoaaaGreat
set_option linter.unusedSimpArgs false
set_option linter.unusedVariables false
set_option linter.unusedSectionVars false
open Go.RowKit Go.Maps

theorem tdC_eq (c : Cm) (s : Int) : (if nextB c.g s then { c with g := s } else c) = tdC c s := by
  unfold tdC nextG
  cases nextB c.g s <;> rfl
theorem takeData_new {m : En} {n i : Int} {h : Hd} {bs : List Int} (ho : ∀ c, m.cm n = some c → ¬ (i < c.i) ∧ ¬ (i = c.i ∧ h.c < c.c) ∧ ¬ (i = c.i ∧ h.c = c.c)) :
    m.takeData n i h bs = ({ m with cm := fun k => if k = n then some (tdC ⟨i, h.c, 0⟩ h.s) else m.cm k }, tdA m.n n i m.i ⟨i, h.c, 0⟩ h.s bs) := by
  unfold En.takeData tdA
  cases hc : m.cm n with
  | none =>
    simp only [Bool.false_eq_true, if_false]
    rw [← tdC_eq]
    rfl
  | some c =>
    obtain ⟨h1, h2, h3⟩ := ho c hc
    have e : (decide (i < c.i) || decide (i = c.i) && decide (h.c < c.c)) = false := by
      rw [decide_eq_false h1, Bool.false_or, ← Bool.decide_and]
      exact decide_eq_false h2
    simp only [e, Bool.false_eq_true, if_false, if_neg h3]
    rw [← tdC_eq]
    rfl
theorem takeData_keep {m : En} {n i : Int} {h : Hd} {bs : List Int} {c : Cm} (hc : m.cm n = some c) (h1 : i = c.i) (h2 : h.c = c.c) :
    m.takeData n i h bs = ({ m with cm := fun k => if k = n then some (tdC c h.s) else m.cm k }, tdA m.n n i m.i c h.s bs) := by
  unfold En.takeData tdA
  rw [hc]
  have e : (decide (i < c.i) || decide (i = c.i) && decide (h.c < c.c)) = false := by
    rw [decide_eq_false (by omega), Bool.false_or, ← Bool.decide_and]
    exact decide_eq_false (by omega)
  have h12 : i = c.i ∧ h.c = c.c := ⟨h1, h2⟩
  simp only [e, Bool.false_eq_true, if_false, if_pos h12]
  rw [← tdC_eq]
  rfl
theorem takeData_old {m : En} {n i : Int} {h : Hd} {bs : List Int} {c : Cm} (hc : m.cm n = some c) (h1 : i < c.i ∨ (i = c.i ∧ h.c < c.c)) : m.takeData n i h bs = (m, an0) := by
  unfold En.takeData
  rw [hc]
  have e : (decide (i < c.i) || decide (i = c.i) && decide (h.c < c.c)) = true := by
    rw [← Bool.decide_and, ← Bool.decide_or]
    exact decide_eq_true h1
  simp only [e, if_true]
def RetTd (w : World) (E C : List Nat) (x : Nat) (rb fb : Nat) (rp : Int → Nat) (r : En × An) (e : Ending) (W' : World) : Prop := ∃ v C' cp' B0, e = .returned v ∧ AnsI w.heap.size B0 W' v r.2 ∧ w.heap.size ≤ B0 ∧ (∀ i ∈ C', i < B0) ∧ EnM W' (rgB B0 W' ++ (C' ++ E)) C' x r.1 rb fb rp cp' ∧ Tr C C' w W'
theorem EnM.self {W : World} {E C : List Nat} {x : Nat} {m : En} {rb fb : Nat} {rp cp : Int → Nat} (h : EnM W E C x m rb fb rp cp) : EnM W (C ++ E) C x m rb fb rp cp :=
  h.more (Below.refl _ _) (fun i hi => by
    rcases List.mem_append.1 hi with h1 | h1
    · exact .inl (h.CE i h1)
    · exact .inl h1) (fun i hi => List.mem_append_left _ hi) (fun i hi => by
    rcases List.mem_append.1 hi with h1 | h1
    · exact h.ltE i (h.CE i h1)
    · exact h.ltE i h1)
theorem EnM.noB {W : World} {E C : List Nat} {x : Nat} {m : En} {rb fb : Nat} {rp cp : Int → Nat} (h : EnM W E C x m rb fb rp cp) : EnM W (rgB W.heap.size W ++ E) C x m rb fb rp cp := by
  rw [rgB_top]; exact h
theorem EnM.offB {W : World} {E C D : List Nat} {x : Nat} {m : En} {rb fb : Nat} {rp cp : Int → Nat} (h : EnM W (D ++ E) C x m rb fb rp cp) (hs : ∀ i ∈ C, i ∈ E) : EnM W E C x m rb fb rp cp := h.less (fun i hi => List.mem_append_right _ hi) hs
section
variable {E C : List Nat} {x : Nat} {m : En} {rb fb : Nat} {rp cp : Int → Nat}
theorem cameF_put {n : Int} {c1 : Cm} {g : Nat} : cameF { m with cm := fun k => if k = n then some c1 else m.cm k } (fun k => if k = n then g else cp k) = putF (cameF m cp) (.int .i64 n) (.pointer (some ⟨g, 0, none⟩)) := by
  funext v
  by_cases hv : v = .int .i64 n
  · subst hv
    rw [putF_same]
    simp [cameF]
  · rw [putF_other _ _ hv]
    unfold cameF
    split
    · rename_i j
      have hj : j ≠ n := fun e => hv (by rw [e])
      simp only [if_neg hj]
    · rfl
theorem cameF_keep {n : Int} {c c1 : Cm} (hc : m.cm n = some c) : cameF { m with cm := fun k => if k = n then some c1 else m.cm k } cp = cameF m cp := by
  funext v
  unfold cameF
  split
  · rename_i j
    by_cases hj : j = n
    · subst hj; simp [hc]
    · simp only [if_neg hj]
  · rfl
/-- what came is told in a row that is there -/
theorem td_keep (w Wt : World) (h : EnM w E C x m rb fb rp cp) {n : Int} {c c1 : Cm} {a : An} {b8 : Nat} (hn : 1 ≤ n ∧ n ≤ 10) (hc : m.cm n = some c) (hb : Below w.heap.size w Wt) (hb8 : w.heap.size ≤ b8) :
    ∀ e W', (∃ v, e = .returned v ∧ AnsM Wt.heap.size W' v a ∧ BoxAt W' (cp n) (cmcs c1) 115 ∧ Gr [cp n, b8] Wt W') → RetTd w E C x rb fb rp ({ m with cm := fun k => if k = n then some c1 else m.cm k }, a) e W' := fun e W' ⟨v, h1, h2, h3, h4⟩ => by
  have hcC := (h.co n c hc).2
  have hg : Gr [cp n, b8] w W' := (Gr.of hb).trans h4
  have hcn : m.cm n ≠ none := by rw [hc]; simp
  have hfm : MapF W' 3 fb 10 (cameF { m with cm := fun k => if k = n then some c1 else m.cm k } cp) := by
    rw [cameF_keep hc]
    exact h.fm.same (hg.blk fb h.fm.lt (by
      intro hm
      rcases List.mem_cons.1 hm with e | hm
      · obtain ⟨D, ⟨es, clock, h5, _⟩, _⟩ := h.fm
        have h6 := (h.co n c hc).1.eq
        rw [← e, h5] at h6
        cases h6
      · rw [List.mem_singleton] at hm
        have := h.fm.lt
        omega))
  have hE := h.fin (n := n) (c1 := c1) (g := cp n) (D := [cp n, b8]) (cp' := cp) hn hg (fun i hi hl => by
    rcases List.mem_cons.1 hi with e | hi
    · exact .inr ⟨e, hcn⟩
    · rw [List.mem_singleton] at hi; omega) (.inl ⟨rfl, hcn⟩) (fun k => by split <;> simp_all) hfm h3 (rgB Wt.heap.size W') (fun i hi => ⟨Nat.le_trans hb.size (mem_rgB.1 hi).1, (mem_rgB.1 hi).2⟩)
  refine ⟨v, cp n :: C, cp, Wt.heap.size, h1, h2.i.lo hb.size, hb.size, fun j hj => ?_, hE.less (fun j hj => ?_) (fun j hj => List.mem_append_right _ (List.mem_append_left _ hj)), ⟨hg.less (fun j hj => ?_), fun j hj => ?_⟩⟩
  · refine Nat.lt_of_lt_of_le ?_ hb.size
    rcases List.mem_cons.1 hj with rfl | hj
    · exact h.ltE _ (h.CE _ hcC)
    · exact h.ltE _ (h.CE _ hj)
  · rcases List.mem_append.1 hj with hj | hj
    · exact List.mem_append_left _ hj
    refine List.mem_append_right _ ?_
    rcases List.mem_append.1 hj with hj | hj
    · rcases List.mem_cons.1 hj with rfl | hj
      · exact List.mem_cons_self
      · exact List.mem_cons_of_mem _ (h.CE _ hj)
    · exact List.mem_cons_of_mem _ hj
  · rcases List.mem_cons.1 hj with rfl | hj
    · exact .inl hcC
    · rw [List.mem_singleton] at hj; exact .inr (by omega)
  · rcases List.mem_cons.1 hj with rfl | hj
    · exact .inl hcC
    · exact .inl hj
/-- what came is told in a row that is new -/
theorem td_new (w Wt : World) (h : EnM w E C x m rb fb rp cp) {n : Int} {c1 : Cm} {a : An} {b8 g : Nat} (hn : 1 ≤ n ∧ n ≤ 10) (hb : Gr [fb] w Wt) (hb8 : w.heap.size ≤ b8) (hgw : w.heap.size ≤ g) (hgt : g < Wt.heap.size) (hf : MapF Wt 3 fb 11 (putF (cameF m cp) (.int .i64 n) (.pointer (some ⟨g, 0, none⟩)))) :
    ∀ e W', (∃ v, e = .returned v ∧ AnsM Wt.heap.size W' v a ∧ BoxAt W' g (cmcs c1) 115 ∧ Gr [g, b8] Wt W') → RetTd w E C x rb fb rp ({ m with cm := fun k => if k = n then some c1 else m.cm k }, a) e W' := fun e W' ⟨v, h1, h2, h3, h4⟩ => by
  have hfl := h.fm.lt
  have hg : Gr [fb, g, b8] w W' := (hb.mono' (by simp)).trans (h4.mono' (by simp))
  have hfm : MapF W' 3 fb 10 (cameF { m with cm := fun k => if k = n then some c1 else m.cm k } (fun k => if k = n then g else cp k)) := by
    refine mapF_tight (n := 11) ?_ (fun y hy hs => ?_)
    · rw [cameF_put]
      exact hf.same (h4.blk fb hf.lt (by simp; omega))
    · unfold cameF at hs
      simp only at hs
      by_cases e : y = n
      · subst e; exact hn
      · simp only [if_neg e] at hs
        refine h.cn y (fun h0 => ?_)
        rw [h0] at hs
        cases hs
  have hE := h.fin (n := n) (c1 := c1) (g := g) (D := [fb, g, b8]) (cp' := fun k => if k = n then g else cp k) hn hg (fun i hi hl => by
    simp at hi
    exact .inl (by omega)) (.inr hgw) (fun k => rfl) hfm h3 (rgB Wt.heap.size W') (fun i hi => ⟨Nat.le_trans hb.size (mem_rgB.1 hi).1, (mem_rgB.1 hi).2⟩)
  refine ⟨v, g :: C, _, Wt.heap.size, h1, h2.i.lo hb.size, hb.size, fun j hj => ?_, hE.less (fun j hj => ?_) (fun j hj => List.mem_append_right _ (List.mem_append_left _ hj)), ⟨hg.less (fun j hj => ?_), fun j hj => ?_⟩⟩
  · rcases List.mem_cons.1 hj with rfl | hj
    · exact hgt
    · exact Nat.lt_of_lt_of_le (h.ltE _ (h.CE _ hj)) hb.size
  · rcases List.mem_append.1 hj with hj | hj
    · exact List.mem_append_left _ hj
    refine List.mem_append_right _ ?_
    rcases List.mem_append.1 hj with hj | hj
    · rcases List.mem_cons.1 hj with rfl | hj
      · exact List.mem_cons_self
      · exact List.mem_cons_of_mem _ (h.CE _ hj)
    · exact List.mem_cons_of_mem _ hj
  · simp at hj
    rcases hj with rfl | rfl | rfl
    · exact .inl h.fC
    · exact .inr hgw
    · exact .inr hb8
  · rcases List.mem_cons.1 hj with rfl | hj
    · exact .inr hgw
    · exact .inl hj
theorem box_map {W : World} {b q k : Nat} {cs : Array Value} {t kt : TypeId} {f : Value → Option Value} (h : BoxAt W b cs t) (hm : MapF W kt q k f) (e : q = b) : False := by
  obtain ⟨D, ⟨es, clock, h1, _⟩, _⟩ := hm
  rw [e, h.eq] at h1
  cases h1
theorem td_tr {w X w6 : World} (h : EnM w E C x m rb fb rp cp) {g b8 : Nat} (hb : Below w.heap.size w X) (hg : Gr [fb] X w6) (h1 : w.heap.size ≤ g) (h2 : w.heap.size ≤ b8) : Tr C [g, b8] w w6 := ⟨(Gr.of hb).trans (hg.mono' (fun i hi => by rw [List.mem_singleton] at hi; subst hi; exact h.fC)), fun i hi => by
  simp at hi
  exact .inr (by omega)⟩
/-- what the region reads -/
def TfS (x b5 fb : Nat) (n : Int) (w' : World) : Prop := w'.cell? ⟨x, 3, none⟩ = some (.map (some fb)) ∧ w'.cell? ⟨b5, 0, none⟩ = some (.int .i64 n)
theorem TfS.gr {x b5 fb : Nat} {n : Int} {W W' : World} {D : List Nat} (h : TfS x b5 fb n W) (hb : Gr D W W') (hC : ∀ j ∈ D, j ≠ x ∧ j ≠ b5) : TfS x b5 fb n W' := by
  have key : ∀ {b o : Nat} {u : Value}, W.cell? ⟨b, o, none⟩ = some u → b ∉ D → W'.cell? ⟨b, o, none⟩ = some u := fun {b o u} h1 h2 => by
    rw [World.cell?_of_block (w := W) (hb.blk b (World.block_lt_of_cell? W _ h1) h2)]
    exact h1
  exact ⟨key h.1 (fun hm => (hC _ hm).1 rfl), key h.2 (fun hm => (hC _ hm).2 rfl)⟩
set_option maxRecDepth 100000 in
set_option maxHeartbeats 8000000 in
theorem takeData_s (w : World) (h : EnM w E C x m rb fb rp cp) (n i d hcn s hin : Int) (hn : 1 ≤ n ∧ n ≤ 10) (s0 : 0 ≤ s) (s1 : s ≤ 18446744073709551615) (BA : Option Addr) (bc : Nat) (bs : List Int) (hB : RO w C 1 BA bs.length (bcs bs)) (hbl : bs.length ≤ 1000000) :
    Calls Tryz.prog 38 #[.pointer (some ⟨x, 0, none⟩), .agg #[.int .i64 n, .int .u64 i], .agg #[.int .i64 d, .int .u64 hcn, .int .u64 s, .int .u64 hin], .slice BA bs.length bc] w (RetTd w E C x rb fb rp (m.takeData n i ⟨d, hcn, s, hin⟩ bs)) := by
  have HE := hide h
  have HB := hide hB
  haveI := h.bx
  have hxl := h.bx.lt
  haveI : LtN x w.heap.size := ⟨hxl⟩
  have hun : ∀ b : Bool, (some undef = some (Value.bool b)) = False := fun b => by simp [undef]
  have hwn : wfI n := ⟨by omega, by omega⟩
  cases hc : m.cm n with
  | some c =>
    haveI := h.came hc
    have hcb := h.co n c hc
    haveI := hcb.1
    have hcl := hcb.1.lt
    have HC := hide hc
    have HCC := hide hcb.2
    by_cases hold : i < c.i ∨ (i = c.i ∧ hcn < c.c)
    · rw [takeData_old hc hold]
      have HO := hide hold
      clear h hB hc hold hcb
      have fin : ∀ W : World, Below w.heap.size w W → RetTd w E C x rb fb rp (m, an0) (.returned nilA) W := fun W hb => ⟨_, C, cp, _, rfl, .nil _ _ _, hb.size, fun i hi => Nat.lt_of_lt_of_le (HE.out.ltE i (HE.out.CE i hi)) hb.size, (HE.out.below hb).self.noB, .bel hb⟩
      by_cases h1 : i < c.i
      · have d1 : decide (i < c.i) = true := decide_eq_true h1
        clear h1
        go_enter Tryz.func38, Tryz.ntmps38
        go_upto_region 1 with fail
        go_region_held3 (fun w' => w'.cell? ⟨x, 3, none⟩ = some (.map (some fb)) ∧ w'.cell? ⟨w.heap.size, 0, none⟩ = some (.int .i64 n)) ((refine ⟨?_, ?_⟩ <;> (rw [cell?_box]; rfl))) (fail)
        all_goals
          go_upto_region 2 with fail
          (refine wp_region_gw (by kernel_rfl) (by kernel_rfl) ?_; (repeat (go_big_quiet_step ((fail)))); refine wpQuiet_nil ?_; intro _ hw'; obtain ⟨⟨dq, osq⟩, hw''⟩ := hw'; subst hw'')
          go_wp2_with fail
          refine bodyPost_ret (v := nilA) (by simp [results, Tryz.results38, go_sem]) rfl ?_
          exact fin _ blw
      · have h2 := HO.out.resolve_left h1
        have d1 : decide (i < c.i) = false := decide_eq_false h1
        have d2 : (i == c.i) = true := by simpa using h2.1
        have d3 : decide (hcn < c.c) = true := decide_eq_true h2.2
        clear h1 h2
        go_enter Tryz.func38, Tryz.ntmps38
        go_upto_region 1 with fail
        go_region_held3 (fun w' => w'.cell? ⟨x, 3, none⟩ = some (.map (some fb)) ∧ w'.cell? ⟨w.heap.size, 0, none⟩ = some (.int .i64 n)) ((refine ⟨?_, ?_⟩ <;> (rw [cell?_box]; rfl))) (fail)
        all_goals
          go_upto_region 2 with fail
          (refine wp_region_gw (by kernel_rfl) (by kernel_rfl) ?_; (repeat (go_big_quiet_step ((fail)))); refine wpQuiet_nil ?_; intro _ hw'; obtain ⟨⟨dq, osq⟩, hw''⟩ := hw'; subst hw'')
          go_wp2_with fail
          refine bodyPost_ret (v := nilA) (by simp [results, Tryz.results38, go_sem]) rfl ?_
          exact fin _ blw
    · by_cases hsame : i = c.i ∧ hcn = c.c
      · rw [takeData_keep hc hsame.1 hsame.2]
        have d1 : decide (i < c.i) = false := decide_eq_false (by omega)
        have d2 : (i == c.i) = true := by simpa using hsame.1
        have d3 : decide (hcn < c.c) = false := decide_eq_false (by omega)
        have d4 : (i != c.i) = false := by simpa using hsame.1
        have d5 : (hcn != c.c) = false := by simpa using hsame.2
        have HS := hide hsame
        clear h hB hc hold hsame hcb
        go_enter Tryz.func38, Tryz.ntmps38
        go_upto_region 1 with fail
        go_region_held3 (fun w' => w'.cell? ⟨x, 3, none⟩ = some (.map (some fb)) ∧ w'.cell? ⟨w.heap.size, 0, none⟩ = some (.int .i64 n)) ((refine ⟨?_, ?_⟩ <;> (rw [cell?_box]; rfl))) (fail)
        all_goals
          go_upto_region 2 with fail
          (refine wp_region_gw (by kernel_rfl) (by kernel_rfl) ?_; (repeat (go_big_quiet_step ((fail)))); refine wpQuiet_nil ?_; intro _ hw'; obtain ⟨⟨dq, osq⟩, hw''⟩ := hw'; subst hw'')
          go_upto_region 4 with fail
          (refine wp_region_gw (by kernel_rfl) (by kernel_rfl) ?_; (repeat (go_big_quiet_step ((fail)))); refine wpQuiet_nil ?_; intro _ hw'; obtain ⟨⟨dq, osq⟩, hw''⟩ := hw'; subst hw'')
          repeat (first
            | (exact td_end (RetTd w E C x rb fb rp _) _ x w.heap.size (w.heap.size + 1) (w.heap.size + 1 + 1) (cp n) m.n m.i n i d hcn s hin _ _ c BA bc bs _ (by rfl) (by rfl) (by rfl) (by rfl) (by rfl) (by rfl) (by rfl) inferInstance inferInstance inferInstance inferInstance inferInstance (by omega) (fun e => HE.out.xE (by rw [e]; exact HE.out.CE _ HCC.out)) (by omega) (by omega) (by omega) (by omega) (by omega) ((HB.out.re (by intro j hj; simp at hj; rcases hj with rfl | rfl; exact .inl HCC.out; exact .inr (by omega))).tr (.bel blw)) hbl s0 s1 (td_keep w _ HE.out hn HC.out blw (by omega)))
            | go_values | go_skip | go_guarded | go_step | go_upon | go_back)
      · rw [takeData_new (fun c' hc' => by rw [hc] at hc'; injection hc' with hc'; subst hc'; exact ⟨fun e => hold (.inl e), fun e => hold (.inr e), hsame⟩)]
        have d1 : decide (i < c.i) = false := decide_eq_false (fun e => hold (.inl e))
        have hfx : fb ≠ x := fun e => HE.out.xE (by rw [← e]; exact HE.out.CE _ HE.out.fC)
        by_cases hii : i = c.i
        · have d2 : (i == c.i) = true := by simpa using hii
          have d3 : decide (hcn < c.c) = false := decide_eq_false (fun e => hold (.inr ⟨hii, e⟩))
          have d4 : (i != c.i) = false := by simpa using hii
          have d5 : (hcn != c.c) = true := by simpa using fun e => hsame ⟨hii, e⟩
          clear h hB hc hold hsame hcb hii
          go_enter Tryz.func38, Tryz.ntmps38
          go_upto_region 1 with fail
          go_region_held3 (fun w' => w'.cell? ⟨x, 3, none⟩ = some (.map (some fb)) ∧ w'.cell? ⟨w.heap.size, 0, none⟩ = some (.int .i64 n)) ((refine ⟨?_, ?_⟩ <;> (rw [cell?_box]; rfl))) (fail)
          all_goals
            go_upto_region 2 with fail
            (refine wp_region_gw (by kernel_rfl) (by kernel_rfl) ?_; (repeat (go_big_quiet_step ((fail)))); refine wpQuiet_nil ?_; intro _ hw'; obtain ⟨⟨dq, osq⟩, hw''⟩ := hw'; subst hw'')
            go_upto_region 4 with fail
            (refine wp_region_gw (by kernel_rfl) (by kernel_rfl) ?_; (repeat (go_big_quiet_step ((fail)))); refine wpQuiet_nil ?_; intro _ hw'; obtain ⟨⟨dq, osq⟩, hw''⟩ := hw'; subst hw'')
            go_upto_region 6 with fail
            refine wp_region_held_drew (S := TfS x w.heap.size fb n) (by kernel_rfl) ⟨by rw [cell?_box]; rfl, by rw [cell?_box]; rfl⟩ (fun hS => ?_)
            refine wpAnyH_take (i := 0) (v := .pointer (some ⟨x, 0, none⟩)) rfl (by kernel_rfl) (by kernel_rfl) (by kernel_rfl) (fun _ _ _ h => h) (Or.inl ⟨by rfl, ?_⟩) hS ?_
            · intro w' hSw
              obtain ⟨h1, h2⟩ := hSw
              go_simp
            simp only [Act.put, List.setIfInBounds_toArray, List.set_cons_zero, List.set_cons_succ]
            refine wpAnyH_take (i := 1) (v := .pointer (some ⟨x, 0, none⟩)) rfl (by kernel_rfl) (by kernel_rfl) (by kernel_rfl) (fun _ _ _ h => h) (Or.inl ⟨by rfl, ?_⟩) hS ?_
            · intro w' hSw
              obtain ⟨h1, h2⟩ := hSw
              go_simp
            simp only [Act.put, List.setIfInBounds_toArray, List.set_cons_zero, List.set_cons_succ]
            refine wpAnyH_take (i := 2) (v := .pointer (some ⟨x, 3, none⟩)) rfl (by kernel_rfl) (by kernel_rfl) (by kernel_rfl) (fun _ _ _ h => h) (Or.inl ⟨by rfl, ?_⟩) hS ?_
            · intro w' hSw
              obtain ⟨h1, h2⟩ := hSw
              go_simp
            simp only [Act.put, List.setIfInBounds_toArray, List.set_cons_zero, List.set_cons_succ]
            refine wpAnyH_take (i := 3) (v := .map (some fb)) rfl (by kernel_rfl) (by kernel_rfl) (by kernel_rfl) (fun _ _ _ h => h) (Or.inl ⟨by rfl, ?_⟩) hS ?_
            · intro w' hSw
              obtain ⟨h1, h2⟩ := hSw
              go_simp
            simp only [Act.put, List.setIfInBounds_toArray, List.set_cons_zero, List.set_cons_succ]
            refine wpAnyH_take (i := 4) (v := .pointer (some ⟨w.heap.size, 0, none⟩)) rfl (by kernel_rfl) (by kernel_rfl) (by kernel_rfl) (fun _ _ _ h => h) (Or.inl ⟨by rfl, ?_⟩) hS ?_
            · intro w' hSw
              obtain ⟨h1, h2⟩ := hSw
              go_simp
            simp only [Act.put, List.setIfInBounds_toArray, List.set_cons_zero, List.set_cons_succ]
            refine wpAnyH_take (i := 5) (v := .int .i64 n) rfl (by kernel_rfl) (by kernel_rfl) (by kernel_rfl) (fun _ _ _ h => h) (Or.inl ⟨by rfl, ?_⟩) hS ?_
            · intro w' hSw
              obtain ⟨h1, h2⟩ := hSw
              go_simp
            simp only [Act.put, List.setIfInBounds_toArray, List.set_cons_zero, List.set_cons_succ]
            refine wpAnyH_ready (rs := [6]) (by kernel_rfl) (by simp) ?_
            refine AllReadyH.cons rfl (fun K hK => ?_) AllReadyH.nil
            go_simp
            refine hK.out _ _ hS (fun hS => ?_)
            clear hK K
            (try simp only [Act.put, List.setIfInBounds_toArray, List.set_cons_zero, List.set_cons_succ])
            refine wpAnyH_ready (rs := [7]) (by kernel_rfl) (by simp) ?_
            refine AllReadyH.cons rfl (fun K hK => ?_) AllReadyH.nil
            refine step_store_f (v := .pointer (some ⟨_, 0, none⟩)) rfl (.tmp 80) (.tmp 82) (.tmp 83) rfl Tryz.lawI Tryz.underlying62 rfl rfl rfl (HE.out.fm.step blw) (by unfold maxLen; omega) (keyI hwn) ?_
            intro w6 hm6 hg6
            refine hK.out _ _ (hS.gr (D := [fb]) (Gr.grown hg6 (fun k hk => by injection hk with hk; simp [hk])) (fun j hj => by rw [List.mem_singleton] at hj; subst hj; exact ⟨hfx, Nat.ne_of_lt HE.out.fm.lt⟩)) (fun hS => ?_)
            clear hK K
            (try simp only [Act.put, List.setIfInBounds_toArray, List.set_cons_zero, List.set_cons_succ])
            refine wpAnyH_done (by kernel_rfl) ?_ _
            clear hS
            have hmf := HE.out.fm
            have kk : ∀ {b c t}, BoxAt _ b c t → BoxAt w6 b c t := fun {b c t} hb => ⟨by rw [hg6.block b hb.lt (fun e => box_map hb (hmf.step blw) (Option.some.inj e).symm)]; exact hb.eq⟩
            repeat (first
              | (exact td_end (RetTd w E C x rb fb rp _) _ x w.heap.size (w.heap.size + 1) (w.heap.size + 1 + 1) _ m.n m.i n i d hcn s hin _ _ ⟨i, hcn, 0⟩ BA bc bs _ (by rfl) (by rfl) (by rfl) (by rfl) (by rfl) (by rfl) (by rfl) (kk inferInstance) (kk inferInstance) (kk inferInstance) (kk inferInstance) (kk inferInstance) (by omega) (by omega) (by omega) (by omega) (by omega) (by omega) (by omega) (HB.out.tr (td_tr HE.out blw (Gr.grown hg6 (fun k hk => by injection hk with hk; simp [hk])) (by omega) (by omega))) hbl s0 s1 (td_new w _ HE.out hn ((Gr.of blw).trans (Gr.grown hg6 (fun k hk => by injection hk with hk; simp [hk]))) (by omega) (by omega) (kk inferInstance).lt hm6))
              | go_values | go_skip | go_guarded | go_step | go_upon | go_back)
        · have d2 : (i == c.i) = false := by simpa using hii
          have d4 : (i != c.i) = true := by simpa using hii
          clear h hB hc hold hsame hcb hii
          go_enter Tryz.func38, Tryz.ntmps38
          go_upto_region 1 with fail
          go_region_held3 (fun w' => w'.cell? ⟨x, 3, none⟩ = some (.map (some fb)) ∧ w'.cell? ⟨w.heap.size, 0, none⟩ = some (.int .i64 n)) ((refine ⟨?_, ?_⟩ <;> (rw [cell?_box]; rfl))) (fail)
          all_goals
            go_upto_region 2 with fail
            (refine wp_region_gw (by kernel_rfl) (by kernel_rfl) ?_; (repeat (go_big_quiet_step ((fail)))); refine wpQuiet_nil ?_; intro _ hw'; obtain ⟨⟨dq, osq⟩, hw''⟩ := hw'; subst hw'')
            go_upto_region 4 with fail
            (refine wp_region_gw (by kernel_rfl) (by kernel_rfl) ?_; (repeat (go_big_quiet_step ((fail)))); refine wpQuiet_nil ?_; intro _ hw'; obtain ⟨⟨dq, osq⟩, hw''⟩ := hw'; subst hw'')
            go_upto_region 6 with fail
            refine wp_region_held_drew (S := TfS x w.heap.size fb n) (by kernel_rfl) ⟨by rw [cell?_box]; rfl, by rw [cell?_box]; rfl⟩ (fun hS => ?_)
            refine wpAnyH_take (i := 0) (v := .pointer (some ⟨x, 0, none⟩)) rfl (by kernel_rfl) (by kernel_rfl) (by kernel_rfl) (fun _ _ _ h => h) (Or.inl ⟨by rfl, ?_⟩) hS ?_
            · intro w' hSw
              obtain ⟨h1, h2⟩ := hSw
              go_simp
            simp only [Act.put, List.setIfInBounds_toArray, List.set_cons_zero, List.set_cons_succ]
            refine wpAnyH_take (i := 1) (v := .pointer (some ⟨x, 0, none⟩)) rfl (by kernel_rfl) (by kernel_rfl) (by kernel_rfl) (fun _ _ _ h => h) (Or.inl ⟨by rfl, ?_⟩) hS ?_
            · intro w' hSw
              obtain ⟨h1, h2⟩ := hSw
              go_simp
            simp only [Act.put, List.setIfInBounds_toArray, List.set_cons_zero, List.set_cons_succ]
            refine wpAnyH_take (i := 2) (v := .pointer (some ⟨x, 3, none⟩)) rfl (by kernel_rfl) (by kernel_rfl) (by kernel_rfl) (fun _ _ _ h => h) (Or.inl ⟨by rfl, ?_⟩) hS ?_
            · intro w' hSw
              obtain ⟨h1, h2⟩ := hSw
              go_simp
            simp only [Act.put, List.setIfInBounds_toArray, List.set_cons_zero, List.set_cons_succ]
            refine wpAnyH_take (i := 3) (v := .map (some fb)) rfl (by kernel_rfl) (by kernel_rfl) (by kernel_rfl) (fun _ _ _ h => h) (Or.inl ⟨by rfl, ?_⟩) hS ?_
            · intro w' hSw
              obtain ⟨h1, h2⟩ := hSw
              go_simp
            simp only [Act.put, List.setIfInBounds_toArray, List.set_cons_zero, List.set_cons_succ]
            refine wpAnyH_take (i := 4) (v := .pointer (some ⟨w.heap.size, 0, none⟩)) rfl (by kernel_rfl) (by kernel_rfl) (by kernel_rfl) (fun _ _ _ h => h) (Or.inl ⟨by rfl, ?_⟩) hS ?_
            · intro w' hSw
              obtain ⟨h1, h2⟩ := hSw
              go_simp
            simp only [Act.put, List.setIfInBounds_toArray, List.set_cons_zero, List.set_cons_succ]
            refine wpAnyH_take (i := 5) (v := .int .i64 n) rfl (by kernel_rfl) (by kernel_rfl) (by kernel_rfl) (fun _ _ _ h => h) (Or.inl ⟨by rfl, ?_⟩) hS ?_
            · intro w' hSw
              obtain ⟨h1, h2⟩ := hSw
              go_simp
            simp only [Act.put, List.setIfInBounds_toArray, List.set_cons_zero, List.set_cons_succ]
            refine wpAnyH_ready (rs := [6]) (by kernel_rfl) (by simp) ?_
            refine AllReadyH.cons rfl (fun K hK => ?_) AllReadyH.nil
            go_simp
            refine hK.out _ _ hS (fun hS => ?_)
            clear hK K
            (try simp only [Act.put, List.setIfInBounds_toArray, List.set_cons_zero, List.set_cons_succ])
            refine wpAnyH_ready (rs := [7]) (by kernel_rfl) (by simp) ?_
            refine AllReadyH.cons rfl (fun K hK => ?_) AllReadyH.nil
            refine step_store_f (v := .pointer (some ⟨_, 0, none⟩)) rfl (.tmp 80) (.tmp 82) (.tmp 83) rfl Tryz.lawI Tryz.underlying62 rfl rfl rfl (HE.out.fm.step blw) (by unfold maxLen; omega) (keyI hwn) ?_
            intro w6 hm6 hg6
            refine hK.out _ _ (hS.gr (D := [fb]) (Gr.grown hg6 (fun k hk => by injection hk with hk; simp [hk])) (fun j hj => by rw [List.mem_singleton] at hj; subst hj; exact ⟨hfx, Nat.ne_of_lt HE.out.fm.lt⟩)) (fun hS => ?_)
            clear hK K
            (try simp only [Act.put, List.setIfInBounds_toArray, List.set_cons_zero, List.set_cons_succ])
            refine wpAnyH_done (by kernel_rfl) ?_ _
            clear hS
            have hmf := HE.out.fm
            have kk : ∀ {b c t}, BoxAt _ b c t → BoxAt w6 b c t := fun {b c t} hb => ⟨by rw [hg6.block b hb.lt (fun e => box_map hb (hmf.step blw) (Option.some.inj e).symm)]; exact hb.eq⟩
            repeat (first
              | (exact td_end (RetTd w E C x rb fb rp _) _ x w.heap.size (w.heap.size + 1) (w.heap.size + 1 + 1) _ m.n m.i n i d hcn s hin _ _ ⟨i, hcn, 0⟩ BA bc bs _ (by rfl) (by rfl) (by rfl) (by rfl) (by rfl) (by rfl) (by rfl) (kk inferInstance) (kk inferInstance) (kk inferInstance) (kk inferInstance) (kk inferInstance) (by omega) (by omega) (by omega) (by omega) (by omega) (by omega) (by omega) (HB.out.tr (td_tr HE.out blw (Gr.grown hg6 (fun k hk => by injection hk with hk; simp [hk])) (by omega) (by omega))) hbl s0 s1 (td_new w _ HE.out hn ((Gr.of blw).trans (Gr.grown hg6 (fun k hk => by injection hk with hk; simp [hk]))) (by omega) (by omega) (kk inferInstance).lt hm6))
              | go_values | go_skip | go_guarded | go_step | go_upon | go_back)
  | none =>
    haveI := h.noCame hwn hc
    rw [takeData_new (fun c' hc' => by rw [hc] at hc'; cases hc')]
    have hfx : fb ≠ x := fun e => HE.out.xE (by rw [← e]; exact HE.out.CE _ HE.out.fC)
    clear h hB hc
    go_enter Tryz.func38, Tryz.ntmps38
    go_upto_region 1 with fail
    go_region_held3 (fun w' => w'.cell? ⟨x, 3, none⟩ = some (.map (some fb)) ∧ w'.cell? ⟨w.heap.size, 0, none⟩ = some (.int .i64 n)) ((refine ⟨?_, ?_⟩ <;> (rw [cell?_box]; rfl))) (fail)
    all_goals
      go_upto_region 2 with fail
      (refine wp_region_gw (by kernel_rfl) (by kernel_rfl) ?_; (repeat (go_big_quiet_step ((fail)))); refine wpQuiet_nil ?_; intro _ hw'; obtain ⟨⟨dq, osq⟩, hw''⟩ := hw'; subst hw'')
      go_upto_region 4 with fail
      (refine wp_region_gw (by kernel_rfl) (by kernel_rfl) ?_; (repeat (go_big_quiet_step ((fail)))); refine wpQuiet_nil ?_; intro _ hw'; obtain ⟨⟨dq, osq⟩, hw''⟩ := hw'; subst hw'')
      go_upto_region 6 with fail
      refine wp_region_held_drew (S := TfS x w.heap.size fb n) (by kernel_rfl) ⟨by rw [cell?_box]; rfl, by rw [cell?_box]; rfl⟩ (fun hS => ?_)
      refine wpAnyH_take (i := 0) (v := .pointer (some ⟨x, 0, none⟩)) rfl (by kernel_rfl) (by kernel_rfl) (by kernel_rfl) (fun _ _ _ h => h) (Or.inl ⟨by rfl, ?_⟩) hS ?_
      · intro w' hSw
        obtain ⟨h1, h2⟩ := hSw
        go_simp
      simp only [Act.put, List.setIfInBounds_toArray, List.set_cons_zero, List.set_cons_succ]
      refine wpAnyH_take (i := 1) (v := .pointer (some ⟨x, 0, none⟩)) rfl (by kernel_rfl) (by kernel_rfl) (by kernel_rfl) (fun _ _ _ h => h) (Or.inl ⟨by rfl, ?_⟩) hS ?_
      · intro w' hSw
        obtain ⟨h1, h2⟩ := hSw
        go_simp
      simp only [Act.put, List.setIfInBounds_toArray, List.set_cons_zero, List.set_cons_succ]
      refine wpAnyH_take (i := 2) (v := .pointer (some ⟨x, 3, none⟩)) rfl (by kernel_rfl) (by kernel_rfl) (by kernel_rfl) (fun _ _ _ h => h) (Or.inl ⟨by rfl, ?_⟩) hS ?_
      · intro w' hSw
        obtain ⟨h1, h2⟩ := hSw
        go_simp
      simp only [Act.put, List.setIfInBounds_toArray, List.set_cons_zero, List.set_cons_succ]
      refine wpAnyH_take (i := 3) (v := .map (some fb)) rfl (by kernel_rfl) (by kernel_rfl) (by kernel_rfl) (fun _ _ _ h => h) (Or.inl ⟨by rfl, ?_⟩) hS ?_
      · intro w' hSw
        obtain ⟨h1, h2⟩ := hSw
        go_simp
      simp only [Act.put, List.setIfInBounds_toArray, List.set_cons_zero, List.set_cons_succ]
      refine wpAnyH_take (i := 4) (v := .pointer (some ⟨w.heap.size, 0, none⟩)) rfl (by kernel_rfl) (by kernel_rfl) (by kernel_rfl) (fun _ _ _ h => h) (Or.inl ⟨by rfl, ?_⟩) hS ?_
      · intro w' hSw
        obtain ⟨h1, h2⟩ := hSw
        go_simp
      simp only [Act.put, List.setIfInBounds_toArray, List.set_cons_zero, List.set_cons_succ]
      refine wpAnyH_take (i := 5) (v := .int .i64 n) rfl (by kernel_rfl) (by kernel_rfl) (by kernel_rfl) (fun _ _ _ h => h) (Or.inl ⟨by rfl, ?_⟩) hS ?_
      · intro w' hSw
        obtain ⟨h1, h2⟩ := hSw
        go_simp
      simp only [Act.put, List.setIfInBounds_toArray, List.set_cons_zero, List.set_cons_succ]
      refine wpAnyH_ready (rs := [6]) (by kernel_rfl) (by simp) ?_
      refine AllReadyH.cons rfl (fun K hK => ?_) AllReadyH.nil
      go_simp
      refine hK.out _ _ hS (fun hS => ?_)
      clear hK K
      (try simp only [Act.put, List.setIfInBounds_toArray, List.set_cons_zero, List.set_cons_succ])
      refine wpAnyH_ready (rs := [7]) (by kernel_rfl) (by simp) ?_
      refine AllReadyH.cons rfl (fun K hK => ?_) AllReadyH.nil
      refine step_store_f (v := .pointer (some ⟨_, 0, none⟩)) rfl (.tmp 80) (.tmp 82) (.tmp 83) rfl Tryz.lawI Tryz.underlying62 rfl rfl rfl (HE.out.fm.step blw) (by unfold maxLen; omega) (keyI hwn) ?_
      intro w6 hm6 hg6
      refine hK.out _ _ (hS.gr (D := [fb]) (Gr.grown hg6 (fun k hk => by injection hk with hk; simp [hk])) (fun j hj => by rw [List.mem_singleton] at hj; subst hj; exact ⟨hfx, Nat.ne_of_lt HE.out.fm.lt⟩)) (fun hS => ?_)
      clear hK K
      (try simp only [Act.put, List.setIfInBounds_toArray, List.set_cons_zero, List.set_cons_succ])
      refine wpAnyH_done (by kernel_rfl) ?_ _
      clear hS
      have hmf := HE.out.fm
      have kk : ∀ {b c t}, BoxAt _ b c t → BoxAt w6 b c t := fun {b c t} hb => ⟨by rw [hg6.block b hb.lt (fun e => box_map hb (hmf.step blw) (Option.some.inj e).symm)]; exact hb.eq⟩
      repeat (first
        | (exact td_end (RetTd w E C x rb fb rp _) _ x w.heap.size (w.heap.size + 1) (w.heap.size + 1 + 1) _ m.n m.i n i d hcn s hin _ _ ⟨i, hcn, 0⟩ BA bc bs _ (by rfl) (by rfl) (by rfl) (by rfl) (by rfl) (by rfl) (by rfl) (kk inferInstance) (kk inferInstance) (kk inferInstance) (kk inferInstance) (kk inferInstance) (by omega) (by omega) (by omega) (by omega) (by omega) (by omega) (by omega) (HB.out.tr (td_tr HE.out blw (Gr.grown hg6 (fun k hk => by injection hk with hk; simp [hk])) (by omega) (by omega))) hbl s0 s1 (td_new w _ HE.out hn ((Gr.of blw).trans (Gr.grown hg6 (fun k hk => by injection hk with hk; simp [hk]))) (by omega) (by omega) (kk inferInstance).lt hm6))
        | go_values | go_skip | go_guarded | go_step | go_upon | go_back)
end
end Go.Proofs.YtniogmefbjfoaaaGreat

namespace Go.Proofs.YtniogmefbjfoaaaGreat
set_option linter.unusedSimpArgs false
set_option linter.unusedVariables false
set_option linter.unusedSectionVars false
open Go.RowKit Go.Maps

def RetTk (w : World) (E C : List Nat) (x : Nat) (rb fb : Nat) (rp cp : Int → Nat) (r : En × An) (e : Ending) (W' : World) : Prop := ∃ v B0, e = .returned v ∧ AnsI w.heap.size B0 W' v r.2 ∧ w.heap.size ≤ B0 ∧ EnM W' (rgB B0 W' ++ E) C x r.1 rb fb rp cp ∧ Gr C w W'
theorem RetTk.nil {w W' : World} {E C : List Nat} {x : Nat} {m' : En} {rb fb : Nat} {rp cp : Int → Nat} (h : EnM W' E C x m' rb fb rp cp) (hg : Gr C w W') : RetTk w E C x rb fb rp cp (m', an0) (.returned nilA) W' := ⟨_, _, rfl, .nil _ _ _, hg.size, h.noB, hg⟩
theorem rgB_n {B i : Nat} {X W : World} (h : i ∈ rgB B W) : i ∈ rgB B X ∨ X.heap.size ≤ i := by
  by_cases h1 : i < X.heap.size
  · exact .inl (mem_rgB.2 ⟨(mem_rgB.1 h).1, h1⟩)
  · exact .inr (by omega)
theorem EnM.setRowT {X W : World} {E E' C : List Nat} {x : Nat} {m : En} {rb fb : Nat} {rp cp : Int → Nat} (h : EnM X E C x m rb fb rp cp) {n : Int} (hn : m.oth n) (t : Tr E E' X W) (hC : ∀ i ∈ C, i ≠ rp n → W.heap[i]? = X.heap[i]?) (hs : ∀ i ∈ C, i ∈ E') (hl : ∀ i ∈ E', i < W.heap.size) {r : Rw} (hr : RwM W E' (rp n) r) : EnM W E' C x (m.put n r) rb fb rp cp := by
  have hrC := (h.ro n hn).2
  have hnr : ∀ k c, m.cm k = some c → cp k ≠ rp n := fun k c hc e => by
    obtain ⟨_, A, c', ds, h1, _⟩ := (h.ro n hn).1
    have h2 := (h.co k c hc).1.eq
    rw [e, h1.eq] at h2
    simp [cmcs] at h2
  have hfb : fb ≠ rp n := fun e => by
    obtain ⟨_, A, c', ds, h1, _⟩ := (h.ro n hn).1
    obtain ⟨D, ⟨es, clock, h2, _⟩, _⟩ := h.fm
    rw [e, h1.eq] at h2
    cases h2
  exact {
    n1 := h.n1
    bx := (t.box h.bx h.xE).1
    xE := (t.box h.bx h.xE).2
    rm := h.rm.same (t.g.blk rb h.rm.lt h.rE)
    rE := fun hm => by
      rcases t.n _ hm with h1 | h1
      · exact h.rE h1
      · have := h.rm.lt; omega
    fm := h.fm.same (hC _ h.fC hfb)
    fC := h.fC
    CE := hs
    ltE := hl
    ro := fun k hk' => by
      by_cases e : k = n
      · subst e
        simpa [En.put] using ⟨hr, hrC⟩
      · have h1 := h.ro k hk'
        have hne : rp k ≠ rp n := fun e' => e (h.ri k n hk' hn e')
        simpa [En.put, e] using And.intro (h1.1.keep t (hC _ h1.2 hne)) h1.2
    ri := h.ri
    co := fun k c hc => by
      have h1 := h.co k c hc
      exact ⟨⟨by rw [hC _ h1.2 (hnr k c hc)]; exact h1.1.eq⟩, h1.2⟩
    ci := h.ci
    cn := h.cn }
theorem BdsN.stp {B : Nat} {X W : World} {A : Option Addr} {ds : List Bd} (h : BdsN X B A ds) (hb : Below X.heap.size X W) : BdsN W B A ds := ⟨h.o.step hb, h.n, h.m⟩
theorem Gr.grow {g : Nat} {X W : World} (h : Gr [g] X W) : X.grownBy W (some g) := ⟨h.os, h.tape, h.out, h.size, fun i hi hne => h.blk i hi (fun hm => hne (by rw [List.mem_singleton] at hm; rw [hm]))⟩
theorem takeAck_no {m : En} {now n i : Int} {h : Hd} (hx : h.i ≠ m.i ∨ m.isR n = false ∨ h.c ≠ (m.rw n).cn ∨ i < (m.rw n).ak) : m.takeAck now n i h = (m, an0) := by
  unfold En.takeAck
  rw [if_pos hx]
theorem takeAck_anew {m : En} {now n i : Int} {h : Hd} (h1 : h.i = m.i) (h2 : m.isR n = true) (h3 : h.c = (m.rw n).cn) (h4 : (m.rw n).ak < i) (h5 : (m.rw n).ak ≠ 0) : m.takeAck now n i h = (m.put n { (m.rw n).anew with ak := i }, an0) := by
  unfold En.takeAck
  rw [if_neg (by rw [h2]; simp; exact ⟨h1, h3, by omega⟩), if_pos ⟨h4, h5⟩]
theorem takeAck_stay {m : En} {now n i : Int} {h : Hd} (h1 : h.i = m.i) (h2 : m.isR n = true) (h3 : h.c = (m.rw n).cn) (h4 : ¬ i < (m.rw n).ak) (h5 : ¬ ((m.rw n).ak < i ∧ (m.rw n).ak ≠ 0)) (h6 : h.s ≤ (m.rw n).ba ∨ ((m.rw n).due : Int) < h.s - (m.rw n).ba) : m.takeAck now n i h = (m.put n { m.rw n with ak := i }, an0) := by
  unfold En.takeAck
  rw [if_neg (by rw [h2]; simp; exact ⟨h1, h3, by omega⟩), if_neg h5]
  have e : Rw.acked { m.rw n with ak := i } h.s = none := if_pos h6
  simp only [e]
theorem takeAck_on {m : En} {now n i : Int} {h : Hd} {k : Nat} (h1 : h.i = m.i) (h2 : m.isR n = true) (h3 : h.c = (m.rw n).cn) (h4 : ¬ i < (m.rw n).ak) (h5 : ¬ ((m.rw n).ak < i ∧ (m.rw n).ak ≠ 0)) (k1 : 1 ≤ k) (k2 : k ≤ (m.rw n).due) (hs : h.s = (m.rw n).ba + k) :
    m.takeAck now n i h = (m.put n (Rw.dueR { m.rw n with ak := i, ba := (m.rw n).ba + k, bx := (m.rw n).bx.drop k } now ((m.rw n).ba + (m.rw n).due)), ⟨m.due n { m.rw n with ak := i, ba := (m.rw n).ba + k, bx := (m.rw n).bx.drop k } ((m.rw n).ba + (m.rw n).due), [], []⟩) := by
  unfold En.takeAck
  rw [if_neg (by rw [h2]; simp; exact ⟨h1, h3, by omega⟩), if_neg h5]
  have e0 : Rw.due { m.rw n with ak := i } = (m.rw n).due := rfl
  have e : Rw.acked { m.rw n with ak := i } h.s = some { m.rw n with ak := i, ba := (m.rw n).ba + k, bx := (m.rw n).bx.drop k } := by
    refine (if_neg (by rw [e0]; simp only; omega)).trans ?_
    have e1 : (h.s - (m.rw n).ba).toNat = k := by omega
    simp only [hs, e1]
    congr 2
    congr 1
    omega
  simp only [e]
  rfl
section
variable {E C : List Nat} {x : Nat} {m : En} {rb fb : Nat} {rp cp : Int → Nat}
theorem tk_fin {w W : World} (h : EnM w E C x m rb fb rp cp) {n : Int} (hn : m.oth n) {D : List Nat} (hg : Gr (rp n :: D) w W) (hD : ∀ i ∈ D, w.heap.size ≤ i) {r' : Rw} (hr : RwM W E (rp n) r') : EnM W E C x (m.put n r') rb fb rp cp ∧ Gr C w W := by
  have hg1 : Gr [rp n] w W := hg.less (fun i hi => by
    rcases List.mem_cons.1 hi with rfl | hi
    · exact .inl (List.mem_singleton.2 rfl)
    · exact .inr (hD i hi))
  exact ⟨h.setRow hn hg1 hr, hg1.mono' (fun i hi => by rw [List.mem_singleton] at hi; subst hi; exact (h.ro n hn).2)⟩
theorem tk_finB {w W : World} (h : EnM w E C x m rb fb rp cp) {n : Int} (hn : m.oth n) {D : List Nat} (hg : Gr (rp n :: D) w W) (hD : ∀ i ∈ D, w.heap.size ≤ i) {r' : Rw} {B : Nat} (hB : w.heap.size ≤ B) (hr : RwM W (rgB B W ++ E) (rp n) r') : EnM W (rgB B W ++ E) C x (m.put n r') rb fb rp cp ∧ Gr C w W := by
  have hrC := (h.ro n hn).2
  have hg1 : Gr [rp n] w W := hg.less (fun i hi => by
    rcases List.mem_cons.1 hi with rfl | hi
    · exact .inl (List.mem_singleton.2 rfl)
    · exact .inr (hD i hi))
  refine ⟨h.setRowT hn ⟨hg1.mono' (fun i hi => by rw [List.mem_singleton] at hi; subst hi; exact h.CE _ hrC), fun i hi => ?_⟩ (fun i hi hne => hg1.blk i (h.ltE i (h.CE i hi)) (fun hm => hne (List.mem_singleton.1 hm))) (fun i hi => List.mem_append_right _ (h.CE i hi)) (fun i hi => ?_) hr, hg1.mono' (fun i hi => by rw [List.mem_singleton] at hi; subst hi; exact hrC)⟩
  · rcases List.mem_append.1 hi with h1 | h1
    · exact .inr (Nat.le_trans hB (mem_rgB.1 h1).1)
    · exact .inl h1
  · rcases List.mem_append.1 hi with h1 | h1
    · exact (mem_rgB.1 h1).2
    · exact Nat.lt_of_lt_of_le (h.ltE i h1) hg.size
theorem tk_end {w6 Wf : World} {B b g : Nat} {r : Rw} (hr : RwM w6 (rgB B w6 ++ (b :: E)) g r) (h8 : Gr [b] w6 Wf) (hg : g ≠ b) : RwM Wf (rgB B Wf ++ E) g r :=
  hr.keep ⟨h8.mono' (by simp), fun j hj => by
    rcases List.mem_append.1 hj with hj | hj
    · rcases rgB_n (X := w6) hj with h1 | h1
      · exact .inl (List.mem_append_left _ h1)
      · exact .inr h1
    · exact .inl (List.mem_append_right _ (List.mem_cons_of_mem _ hj))⟩ (h8.blk g hr.lt (by simpa using hg))
/-- the world behind the beginning -/
abbrev tk3 (w : World) (n i d hcn s hin : Int) : World := ((w.alloc (.cells #[.int .i64 n, .int .u64 i] 24)).alloc (.cells #[.int .i64 d, .int .u64 hcn, .int .u64 s, .int .u64 hin] 93)).alloc (.cells #[.slice none 0 0, .slice none 0 0, .slice none 0 0] 52)
set_option maxRecDepth 100000 in
set_option maxHeartbeats 8000000 in
theorem takeAck_c1 (w : World) (h : EnM w E C x m rb fb rp cp) (now n i d hcn s hin : Int) (now0 : 0 ≤ now) (now1 : now ≤ 18446744073709551615) (hn : wfI n) (s0 : 0 ≤ s) (s1 : s ≤ 18446744073709551615)
    (hR : m.isR n = true) (h1 : hin = m.i) (h3 : hcn = (m.rw n).cn) (h4 : ¬ i < (m.rw n).ak) (h5 : ¬ ((m.rw n).ak < i ∧ (m.rw n).ak ≠ 0)) (h6 : s ≤ (m.rw n).ba ∨ ((m.rw n).due : Int) < s - (m.rw n).ba) :
    Calls Tryz.prog 39 #[.pointer (some ⟨x, 0, none⟩), .int .u64 now, .agg #[.int .i64 n, .int .u64 i], .agg #[.int .i64 d, .int .u64 hcn, .int .u64 s, .int .u64 hin]] w (RetTk w E C x rb fb rp cp (m.put n { m.rw n with ak := i }, an0)) := by
  have HE := hide h
  haveI := h.bx
  have hxl := h.bx.lt
  haveI : LtN x w.heap.size := ⟨hxl⟩
  have hun : ∀ b : Bool, (some undef = some (Value.bool b)) = False := fun b => by simp [undef]
  have TR := hide (fun W (h : EnM W E C x m rb fb rp cp) => reliable_s W h n hn)
  have hoth := (isR_iff.1 hR).1
  have e : relV m rp n = .pointer (some ⟨rp n, 0, none⟩) := by unfold relV; rw [hR]; rfl
  rw [e] at TR
  obtain ⟨⟨hok, A, c, ds, hb, hds, hmap, hcl⟩, hrC⟩ := h.ro n hoth
  haveI := hb
  have hrl := hb.lt
  haveI : LtN (rp n) w.heap.size := ⟨hrl⟩
  have hxr : x ≠ rp n := fun e => h.xE (by rw [e]; exact h.CE _ hrC)
  haveI : NeN x (rp n) := ⟨hxr⟩
  have hl : ds.length = (m.rw n).bx.length := by rw [← hmap, List.length_map]
  have HRC := hide hrC
  have HOTH := hide hoth
  have HOK := hide hok
  have HDS := hide hds
  have HMAP := hide hmap
  have HCL := hide hcl
  have H5 := hide h5
  have HL := hide hl
  have d1 : (hin != m.i) = false := by simpa using h1
  have d3 : (hcn != (m.rw n).cn) = false := by simpa using h3
  have d4 : decide (i < (m.rw n).ak) = false := decide_eq_false h4
  obtain ⟨q, hq⟩ : ∃ q, q = min (m.rw n).bx.length 8 := ⟨_, rfl⟩
  have hq8 : q ≤ 8 := by omega
  have hmin : min (((m.rw n).bx.length : Nat) : Int) 8 = (q : Int) := by omega
  have hwq : IntKind.u64.wrap ((m.rw n).ba + (q : Int)) = (m.rw n).ba + q := by have := hok.b0; have := hok.bm; have := hok.bl; exact IntWalk.u64_in _ (by omega)
  have HQ := hide hq
  have TA : Hid (∀ W, BdsR W A ds → Calls Tryz.prog 62 #[sndV (m.rw n).ba A (m.rw n).bx.length c, .int .u64 s] W fun e w' => ∃ A' n' c', e = .returned (.tuple #[sndV (m.rw n).ba A' n' c', .bool false]) ∧ Below W.heap.size W w') := hide (fun W hW => by
    have := acked_no (m.rw n).ba A c ds s W hW (by rw [hl]; exact hok.bl) hok.b0 (by rw [hl]; exact hok.bm) (fun d hd => hok.bb _ (by rw [← hmap]; exact List.mem_map_of_mem hd)) s0 s1 (by rw [hl]; exact h6)
    rw [hl] at this
    exact this)
  clear h e hR h1 h3 h4 h5 hok hds hmap hcl hrC hoth hl hq
  go_enter Tryz.func39, Tryz.ntmps39
  go_upto_region 2 with (go_at_call 34; (with_reducible refine (TR.out _ (HE.out.below blw)).mono ?_); rintro e w1 ⟨rfl, rfl⟩)
  (refine wp_region_gw (by kernel_rfl) (by kernel_rfl) ?_; (repeat (go_big_quiet_step ((fail)))); refine wpQuiet_nil ?_; intro _ hw'; obtain ⟨⟨dq, osq⟩, hw''⟩ := hw'; subst hw'')
  go_upto_region 4 with fail
  go_cut [61] (fun s61 wx => s61 = .bool false ∧ Below (tk3 w n i d hcn s hin).heap.size (tk3 w n i d hcn s hin) wx)
  case first =>
    by_cases h7 : (m.rw n).ak < i
    · have d5 : decide ((m.rw n).ak < i) = true := decide_eq_true h7
      have d6 : ((m.rw n).ak != 0) = false := by simpa using fun e => H5.out ⟨h7, e⟩
      clear h7
      (refine wp_region_gw (by kernel_rfl) (by kernel_rfl) ?_; (repeat (go_big_quiet_step ((fail)))); refine wpQuiet_nil ?_; intro _ hw'; obtain ⟨⟨dq, osq⟩, hw''⟩ := hw'; subst hw'')
      go_wp2
      go_meet
      case rel => exact ⟨rfl, blw⟩
    · have d5 : decide ((m.rw n).ak < i) = false := decide_eq_false h7
      clear h7
      (refine wp_region_gw (by kernel_rfl) (by kernel_rfl) ?_; (repeat (go_big_quiet_step ((fail)))); refine wpQuiet_nil ?_; intro _ hw'; obtain ⟨⟨dq, osq⟩, hw''⟩ := hw'; subst hw'')
      go_wp2
      go_meet
      case rel => exact ⟨rfl, blw⟩
  case rest =>
    obtain ⟨rfl, hBa⟩ := hcut
    obtain ⟨wa, rfl⟩ : ∃ wa, wa = wc := ⟨wc, rfl⟩
    haveI : Stp (tk3 w n i d hcn s hin) wa := ⟨hBa⟩
    have za := hBa.size
    simp only [World.size_alloc] at za
    haveI : LtN (rp n) wa.heap.size := ⟨by omega⟩
    haveI : LtN x wa.heap.size := ⟨by omega⟩
    haveI : LtN w.heap.size wa.heap.size := ⟨by omega⟩
    haveI : LtN (w.heap.size + 1) wa.heap.size := ⟨by omega⟩
    haveI : LtN (w.heap.size + 1 + 1) wa.heap.size := ⟨by omega⟩
    haveI : LeN (wa.setCell ⟨rp n, 4, none⟩ (.int .u64 i)).heap.size wa.heap.size := ⟨by simp [World.setCell]⟩
    clear hBa
    have HDW : Hid (∀ W, Below (wa.setCell ⟨rp n, 4, none⟩ (.int .u64 i)).heap.size (wa.setCell ⟨rp n, 4, none⟩ (.int .u64 i)) W → BdsR W A ds) := hide (fun W hW => (HDS.out.tr (.of ((((Gr.of (C := [rp n]) (blw (a := w) (W := wa))).trans (Gr.set (m := rp n) _ 4 (.int .u64 i) (by simp))).trans (Gr.of hW)).mono' (fun j hj => by rw [List.mem_singleton] at hj; subst hj; exact HE.out.CE _ HRC.out)))).rd)
    go_upto_region 9 with fail
    go_region_held3 (fun w' => w'.cell? ⟨rp n, 2, none⟩ = some (.int .u64 (m.rw n).ba) ∧ w'.cell? ⟨rp n, 3, none⟩ = some (.slice A (m.rw n).bx.length c)) ((refine ⟨?_, ?_⟩ <;> (rw [cell?_box]; rfl))) (fail)
    all_goals
      go_upto_region 10 with fail
      go_cut [11, 12] (fun s11 s12 wx => ∃ b11 A' n' c', s11 = .pointer (some ⟨b11, 0, none⟩) ∧ s12 = .bool false ∧ BoxAt wx b11 #[.int .u64 (m.rw n).ba, .slice A' n' c'] 68 ∧ Below (wa.setCell ⟨rp n, 4, none⟩ (.int .u64 i)).heap.size (wa.setCell ⟨rp n, 4, none⟩ (.int .u64 i)) wx)
      case first =>
        go_region_held3 (fun w' => w'.cell? ⟨rp n, 2, none⟩ = some (.int .u64 (m.rw n).ba) ∧ w'.cell? ⟨rp n, 3, none⟩ = some (.slice A (m.rw n).bx.length c) ∧ w'.cell? ⟨w.heap.size + 1, 2, none⟩ = some (.int .u64 s)) ((refine ⟨?_, ?_, ?_⟩ <;> (rw [cell?_box]; rfl)))
          (first | (go_at_call 62; (with_reducible refine (TA.out _ (HDW.out _ blw)).mono ?_); rintro e w2 ⟨A', n', c', rfl, hb2⟩; haveI : Stp _ w2 := ⟨hb2⟩; clear hb2) | fail)
        all_goals
          go_wp2
          go_meet
          case rel => exact ⟨_, _, _, _, rfl, rfl, inferInstance, blw⟩
      case rest =>
        obtain ⟨b11, A', n', c', rfl, rfl, hb11, hBc⟩ := hcut
        obtain ⟨we, rfl⟩ : ∃ we, we = wc := ⟨wc, rfl⟩
        have hSe := hBc
        haveI : Stp (wa.setCell ⟨rp n, 4, none⟩ (.int .u64 i)) we := ⟨hSe⟩
        clear hBc hSe
        go_wp2_with fail
        refine bodyPost_ret (v := nilA) (by simp [results, Tryz.results39, go_sem]) rfl ?_
        have hgf : Gr [rp n, w.heap.size + 1 + 1] w _ := (((((Gr.of (C := [rp n, w.heap.size + 1 + 1]) (blw (a := w) (W := wa))).trans (Gr.set (m := rp n) _ 4 (.int .u64 i) (by simp))).trans (Gr.of (blw (W := we)))).trans (Gr.set (m := w.heap.size + 1 + 1) _ 0 (.slice none 0 0) (by simp))).trans (Gr.set (m := w.heap.size + 1 + 1) _ 1 (.slice none 0 0) (by simp))).trans (Gr.set (m := w.heap.size + 1 + 1) _ 2 (.slice none 0 0) (by simp))
        obtain ⟨hE, hG⟩ := tk_fin HE.out HOTH.out hgf (by intro j hj; rw [List.mem_singleton] at hj; omega) (r' := { m.rw n with ak := i }) ⟨⟨HOK.out.bl, HOK.out.b0, HOK.out.bm, HOK.out.bb, HOK.out.s0, HOK.out.s1⟩, A, c, ds, inferInstance, HDS.out.tr (.of ((hgf.less (D := [rp n]) (by intro j hj; simp at hj ⊢; omega)).mono' (fun j hj => by rw [List.mem_singleton] at hj; subst hj; exact HE.out.CE _ HRC.out))), HMAP.out, HCL.out⟩
        exact RetTk.nil hE hG
set_option maxRecDepth 100000 in
set_option maxHeartbeats 8000000 in
theorem takeAck_c2 (w : World) (h : EnM w E C x m rb fb rp cp) (now n i d hcn s hin : Int) (now0 : 0 ≤ now) (now1 : now ≤ 18446744073709551615) (hn : wfI n) (s0 : 0 ≤ s) (s1 : s ≤ 18446744073709551615)
    (hR : m.isR n = true) (h1 : hin = m.i) (h3 : hcn = (m.rw n).cn) (h4 : ¬ i < (m.rw n).ak) (h5 : ¬ ((m.rw n).ak < i ∧ (m.rw n).ak ≠ 0)) (k : Nat) (k1 : 1 ≤ k) (k2 : k ≤ (m.rw n).due) (hs : s = (m.rw n).ba + k) :
    Calls Tryz.prog 39 #[.pointer (some ⟨x, 0, none⟩), .int .u64 now, .agg #[.int .i64 n, .int .u64 i], .agg #[.int .i64 d, .int .u64 hcn, .int .u64 s, .int .u64 hin]] w (RetTk w E C x rb fb rp cp (m.put n (Rw.dueR { m.rw n with ak := i, ba := (m.rw n).ba + k, bx := (m.rw n).bx.drop k } now ((m.rw n).ba + (m.rw n).due)), ⟨m.due n { m.rw n with ak := i, ba := (m.rw n).ba + k, bx := (m.rw n).bx.drop k } ((m.rw n).ba + (m.rw n).due), [], []⟩)) := by
  have HE := hide h
  haveI := h.bx
  have hxl := h.bx.lt
  haveI : LtN x w.heap.size := ⟨hxl⟩
  have hun : ∀ b : Bool, (some undef = some (Value.bool b)) = False := fun b => by simp [undef]
  have TR := hide (fun W (h : EnM W E C x m rb fb rp cp) => reliable_s W h n hn)
  have hoth := (isR_iff.1 hR).1
  have e : relV m rp n = .pointer (some ⟨rp n, 0, none⟩) := by unfold relV; rw [hR]; rfl
  rw [e] at TR
  obtain ⟨⟨hok, A, c, ds, hb, hds, hmap, hcl⟩, hrC⟩ := h.ro n hoth
  haveI := hb
  have hrl := hb.lt
  haveI : LtN (rp n) w.heap.size := ⟨hrl⟩
  have hxr : x ≠ rp n := fun e => h.xE (by rw [e]; exact h.CE _ hrC)
  haveI : NeN x (rp n) := ⟨hxr⟩
  have hl : ds.length = (m.rw n).bx.length := by rw [← hmap, List.length_map]
  have HRC := hide hrC
  have HOTH := hide hoth
  have HOK := hide hok
  have HDS := hide hds
  have HMAP := hide hmap
  have HCL := hide hcl
  have H5 := hide h5
  have HL := hide hl
  have d1 : (hin != m.i) = false := by simpa using h1
  have d3 : (hcn != (m.rw n).cn) = false := by simpa using h3
  have d4 : decide (i < (m.rw n).ak) = false := decide_eq_false h4
  obtain ⟨q, hq⟩ : ∃ q, q = min (m.rw n).bx.length 8 := ⟨_, rfl⟩
  have hq8 : q ≤ 8 := by omega
  have hmin : min (((m.rw n).bx.length : Nat) : Int) 8 = (q : Int) := by omega
  have hwq : IntKind.u64.wrap ((m.rw n).ba + (q : Int)) = (m.rw n).ba + q := by have := hok.b0; have := hok.bm; have := hok.bl; exact IntWalk.u64_in _ (by omega)
  have HQ := hide hq
  have hk8 : k ≤ (m.rw n).bx.length := by unfold Rw.due at k2; omega
  have hkq : k ≤ 8 := by unfold Rw.due at k2; omega
  have TA : Hid (∀ W, BdsR W A ds → Calls Tryz.prog 62 #[sndV (m.rw n).ba A (m.rw n).bx.length c, .int .u64 s] W (RetAck W ((m.rw n).ba + k) ((m.rw n).bx.drop k))) := hide (fun W hW => by
    have := acked_s (m.rw n).ba A c ds k W hW (by rw [hl]; exact hok.bl) hok.b0 (by rw [hl]; exact hok.bm) (fun d hd => hok.bb _ (by rw [← hmap]; exact List.mem_map_of_mem hd)) k1 (by rw [hl]; exact hk8) hkq (by rw [hl]; exact hcl)
    rw [hl, hmap, ← hs] at this
    rw [← hs]
    exact this)
  have HS := hide hs
  clear hs
  clear h e hR h1 h3 h4 h5 hok hds hmap hcl hrC hoth hl hq
  go_enter Tryz.func39, Tryz.ntmps39
  go_upto_region 2 with (go_at_call 34; (with_reducible refine (TR.out _ (HE.out.below blw)).mono ?_); rintro e w1 ⟨rfl, rfl⟩)
  (refine wp_region_gw (by kernel_rfl) (by kernel_rfl) ?_; (repeat (go_big_quiet_step ((fail)))); refine wpQuiet_nil ?_; intro _ hw'; obtain ⟨⟨dq, osq⟩, hw''⟩ := hw'; subst hw'')
  go_upto_region 4 with fail
  go_cut [61] (fun s61 wx => s61 = .bool false ∧ Below (tk3 w n i d hcn s hin).heap.size (tk3 w n i d hcn s hin) wx)
  case first =>
    by_cases h7 : (m.rw n).ak < i
    · have d5 : decide ((m.rw n).ak < i) = true := decide_eq_true h7
      have d6 : ((m.rw n).ak != 0) = false := by simpa using fun e => H5.out ⟨h7, e⟩
      clear h7
      (refine wp_region_gw (by kernel_rfl) (by kernel_rfl) ?_; (repeat (go_big_quiet_step ((fail)))); refine wpQuiet_nil ?_; intro _ hw'; obtain ⟨⟨dq, osq⟩, hw''⟩ := hw'; subst hw'')
      go_wp2
      go_meet
      case rel => exact ⟨rfl, blw⟩
    · have d5 : decide ((m.rw n).ak < i) = false := decide_eq_false h7
      clear h7
      (refine wp_region_gw (by kernel_rfl) (by kernel_rfl) ?_; (repeat (go_big_quiet_step ((fail)))); refine wpQuiet_nil ?_; intro _ hw'; obtain ⟨⟨dq, osq⟩, hw''⟩ := hw'; subst hw'')
      go_wp2
      go_meet
      case rel => exact ⟨rfl, blw⟩
  case rest =>
    obtain ⟨rfl, hBa⟩ := hcut
    obtain ⟨wa, rfl⟩ : ∃ wa, wa = wc := ⟨wc, rfl⟩
    haveI : Stp (tk3 w n i d hcn s hin) wa := ⟨hBa⟩
    have za := hBa.size
    simp only [World.size_alloc] at za
    haveI : LtN (rp n) wa.heap.size := ⟨by omega⟩
    haveI : LtN x wa.heap.size := ⟨by omega⟩
    haveI : LtN w.heap.size wa.heap.size := ⟨by omega⟩
    haveI : LtN (w.heap.size + 1) wa.heap.size := ⟨by omega⟩
    haveI : LtN (w.heap.size + 1 + 1) wa.heap.size := ⟨by omega⟩
    haveI : LeN (wa.setCell ⟨rp n, 4, none⟩ (.int .u64 i)).heap.size wa.heap.size := ⟨by simp [World.setCell]⟩
    clear hBa
    have HDW : Hid (∀ W, Below (wa.setCell ⟨rp n, 4, none⟩ (.int .u64 i)).heap.size (wa.setCell ⟨rp n, 4, none⟩ (.int .u64 i)) W → BdsR W A ds) := hide (fun W hW => (HDS.out.tr (.of ((((Gr.of (C := [rp n]) (blw (a := w) (W := wa))).trans (Gr.set (m := rp n) _ 4 (.int .u64 i) (by simp))).trans (Gr.of hW)).mono' (fun j hj => by rw [List.mem_singleton] at hj; subst hj; exact HE.out.CE _ HRC.out)))).rd)
    go_upto_region 9 with fail
    go_region_held3 (fun w' => w'.cell? ⟨rp n, 2, none⟩ = some (.int .u64 (m.rw n).ba) ∧ w'.cell? ⟨rp n, 3, none⟩ = some (.slice A (m.rw n).bx.length c)) ((refine ⟨?_, ?_⟩ <;> (rw [cell?_box]; rfl))) (fail)
    all_goals
      go_upto_region 10 with fail
      go_cut [11, 12] (fun s11 s12 wx => ∃ b11 A' c' ds', s11 = .pointer (some ⟨b11, 0, none⟩) ∧ s12 = .bool true ∧ BoxAt wx b11 #[.int .u64 ((m.rw n).ba + k), .slice A' ((m.rw n).bx.length - k) c'] 68 ∧ wa.heap.size ≤ b11 ∧ (ds' : List Bd).map Bd.bs = (m.rw n).bx.drop k ∧ BdsN wx wa.heap.size A' ds' ∧ ((m.rw n).bx.drop k).length ≤ c' ∧ Below (wa.setCell ⟨rp n, 4, none⟩ (.int .u64 i)).heap.size (wa.setCell ⟨rp n, 4, none⟩ (.int .u64 i)) wx)
      case first =>
        have zsw : (wa.setCell ⟨rp n, 4, none⟩ (.int .u64 i)).heap.size = wa.heap.size := by simp [World.setCell]
        go_region_held3 (fun w' => w'.cell? ⟨rp n, 2, none⟩ = some (.int .u64 (m.rw n).ba) ∧ w'.cell? ⟨rp n, 3, none⟩ = some (.slice A (m.rw n).bx.length c) ∧ w'.cell? ⟨w.heap.size + 1, 2, none⟩ = some (.int .u64 s)) ((refine ⟨?_, ?_, ?_⟩ <;> (rw [cell?_box]; rfl)))
          (first | (go_at_call 62; (with_reducible refine (TA.out _ (HDW.out _ blw)).mono ?_); rintro e w2 ⟨A', c', ds', rfl, hm2, hN2, hb2, hc2⟩; haveI : Stp _ w2 := ⟨hb2⟩; have zw2 : wa.heap.size ≤ w2.heap.size := (by rw [← zsw]; exact Blw.size inferInstance); have HM2 := hide hm2; have HC2 := hide hc2; have HN2 := hide hN2; clear hm2 hN2 hb2 hc2) | fail)
        all_goals
          go_wp2
          go_meet
          case rel => exact ⟨_, _, _, ds', rfl, rfl, inferInstance, by omega, HM2.out, BdsN.lo (by first | exact BdsN.stp HN2.out (below_alloc _ _) | exact BdsN.gr (C := [wa.heap.size]) HN2.out ((Gr.set (m := wa.heap.size) _ _ _ (by simp)).trans (Gr.set (m := wa.heap.size) _ _ _ (by simp))) (by intro j hj; rw [List.mem_singleton] at hj; subst hj; first | (simp [World.setCell, World.drew]; done) | (simp [World.setCell, World.drew]; omega))) (by first | omega | (simp [World.setCell, World.drew]; done) | (simp [World.setCell, World.drew]; omega)), HC2.out, blw⟩
      case rest =>
        obtain ⟨b11, A', c', ds', rfl, rfl, hb11, z11, hm', hN', hc', hBc⟩ := hcut
        obtain ⟨we, rfl⟩ : ∃ we, we = wc := ⟨wc, rfl⟩
        have hSe := hBc
        haveI : Stp (wa.setCell ⟨rp n, 4, none⟩ (.int .u64 i)) we := ⟨hSe⟩
        haveI := hb11
        have ze := hSe.size
        simp only [World.setCell, Array.size_modify] at ze
        haveI : LtN (rp n) b11 := ⟨by omega⟩
        have hE8 := HE.out.more (E' := (w.heap.size + 1 + 1) :: E) (W := wa) blw (fun j hj => by
          rcases List.mem_cons.1 hj with rfl | hj
          · exact .inr (by omega)
          · exact .inl hj) (fun j hj => List.mem_cons_of_mem _ (HE.out.CE j hj)) (fun j hj => by
          rcases List.mem_cons.1 hj with rfl | hj
          · omega
          · have := HE.out.ltE j hj; omega)
        have hg5 : Gr [rp n] wa ((we.setCell ⟨rp n, 2, none⟩ (.int .u64 ((m.rw n).ba + k))).setCell ⟨rp n, 3, none⟩ (.slice A' ((m.rw n).bx.length - k) c')) := (((Gr.set (m := rp n) _ 4 (.int .u64 i) (by simp)).trans (Gr.of (blw (W := we)))).trans (Gr.set (m := rp n) _ 2 _ (by simp))).trans (Gr.set (m := rp n) _ 3 _ (by simp))
        have hrE : ∀ j ∈ [rp n], j ∈ (w.heap.size + 1 + 1) :: E := fun j hj => by rw [List.mem_singleton] at hj; subst hj; exact List.mem_cons_of_mem _ (HE.out.CE _ HRC.out)
        have hbds : Bds we ((w.heap.size + 1 + 1) :: E) A' ds' := hN'.ro (fun j hj => hE8.ltE j hj)
        have hkb : (m.rw n).bx.length ≤ 48 := HOK.out.bl
        have hr5 : RwM ((we.setCell ⟨rp n, 2, none⟩ (.int .u64 ((m.rw n).ba + k))).setCell ⟨rp n, 3, none⟩ (.slice A' ((m.rw n).bx.length - k) c')) ((w.heap.size + 1 + 1) :: E) (rp n) { m.rw n with ak := i, ba := (m.rw n).ba + k, bx := (m.rw n).bx.drop k } := by
          refine ⟨⟨by simp only [List.length_drop]; omega, by have := HOK.out.b0; simp only; omega, by have := HOK.out.bm; simp only [List.length_drop]; omega, fun b hb => HOK.out.bb b (List.mem_of_mem_drop hb), HOK.out.s0, HOK.out.s1⟩, A', c', ds', ?_, hbds.tr (.of (((Gr.set (m := rp n) _ 2 _ (by simp)).trans (Gr.set (m := rp n) _ 3 _ (by simp))).mono' hrE)), hm', hc'⟩
          simp only [List.length_drop]
          exact inferInstance
        have hE5 := hE8.setRow HOTH.out hg5 hr5
        have er : (m.put n { m.rw n with ak := i, ba := (m.rw n).ba + k, bx := (m.rw n).bx.drop k }).rw n = { m.rw n with ak := i, ba := (m.rw n).ba + k, bx := (m.rw n).bx.drop k } := by unfold En.put; simp
        have TDu := due_s _ hE5 n HOTH.out now ((m.rw n).ba + (q : Int)) now0 now1
        rw [er] at TDu
        have HTD := hide TDu
        have HE5 := hide hE5
        have HG5 := hide hg5
        clear TDu hE5 hr5 hbds hE8 hg5 hN' hm' hc' hBc hSe
        go_wp2_with (go_at_call 40; (with_reducible refine HTD.out.mono ?_); rintro e w6 ⟨v6, ps6, rfl, hp6, hm6, hr6, hg6⟩; haveI : StpG (rp n) _ w6 := ⟨hg6.grow⟩; have HP6 := hide hp6; have HM6 := hide hm6; have HR6 := hide hr6; have HG6 := hide hg6; obtain ⟨A6, c6, rfl, _, _⟩ := own_slice hp6.row; clear hp6 hm6 hr6 hg6)
        refine bodyPost_ret (v := .agg #[.slice A6 ps6.length c6, .slice none 0 0, .slice none 0 0]) (by simp [results, Tryz.results39, go_sem]) rfl ?_
        have h8 : Gr [w.heap.size + 1 + 1] w6 (((w6.setCell ⟨w.heap.size + 1 + 1, 0, none⟩ (.slice A6 ps6.length c6)).setCell ⟨w.heap.size + 1 + 1, 1, none⟩ (.slice none 0 0)).setCell ⟨w.heap.size + 1 + 1, 2, none⟩ (.slice none 0 0)) := (((Gr.set (m := w.heap.size + 1 + 1) _ 0 (.slice A6 ps6.length c6) (by simp)).trans (Gr.set (m := w.heap.size + 1 + 1) _ 1 (.slice none 0 0) (by simp))).trans (Gr.set (m := w.heap.size + 1 + 1) _ 2 (.slice none 0 0) (by simp)))
        have z6 := HG6.out.size
        simp only [World.setCell, Array.size_modify] at z6
        have hgf : Gr [rp n, w.heap.size + 1 + 1] w _ := (((Gr.of (C := [rp n, w.heap.size + 1 + 1]) (blw (a := w) (W := wa))).trans (HG5.out.mono' (by simp))).trans (HG6.out.mono' (by simp))).trans (h8.mono' (by simp))
        have hrg := tk_end HR6.out h8 (by omega)
        obtain ⟨hE, hG⟩ := tk_finB HE.out HOTH.out hgf (by intro j hj; rw [List.mem_singleton] at hj; omega) (by simp only [World.setCell, Array.size_modify]; omega) hrg
        have hq1 : (q : Int) = ((m.rw n).due : Int) := by have := HQ.out; unfold Rw.due; omega
        refine ⟨_, _, rfl, AnsI.lo (AnsM.i ⟨_, ps6, _, [], _, rfl, HP6.out.gr h8 (by intro j hj; rw [List.mem_singleton] at hj; simp only [World.setCell, Array.size_modify]; omega), ?_, .nil _ _, rfl, World.ownsRow_nil _ _ _ _⟩) (by simp only [World.setCell, Array.size_modify]; omega), by simp only [World.setCell, Array.size_modify]; omega, ?_, hG⟩
        · rw [HM6.out, hq1]; rfl
        · rw [hq1] at hE; exact hE
set_option maxRecDepth 100000 in
set_option maxHeartbeats 8000000 in
theorem takeAck_s (w : World) (h : EnM w E C x m rb fb rp cp) (now n i d hcn s hin : Int) (now0 : 0 ≤ now) (now1 : now ≤ 18446744073709551615) (hn : wfI n) (s0 : 0 ≤ s) (s1 : s ≤ 18446744073709551615) :
    Calls Tryz.prog 39 #[.pointer (some ⟨x, 0, none⟩), .int .u64 now, .agg #[.int .i64 n, .int .u64 i], .agg #[.int .i64 d, .int .u64 hcn, .int .u64 s, .int .u64 hin]] w (RetTk w E C x rb fb rp cp (m.takeAck now n i ⟨d, hcn, s, hin⟩)) := by
  have HE := hide h
  haveI := h.bx
  have hxl := h.bx.lt
  haveI : LtN x w.heap.size := ⟨hxl⟩
  have hun : ∀ b : Bool, (some undef = some (Value.bool b)) = False := fun b => by simp [undef]
  have TR := hide (fun W (h : EnM W E C x m rb fb rp cp) => reliable_s W h n hn)
  have fin : ∀ W : World, Below w.heap.size w W → RetTk w E C x rb fb rp cp (m, an0) (.returned nilA) W := fun W hb => RetTk.nil (HE.out.below hb) (.of hb)
  cases hR : m.isR n with
  | false =>
    rw [takeAck_no (.inr (.inl hR))]
    have e : relV m rp n = .pointer none := by unfold relV; rw [hR]; rfl
    rw [e] at TR
    clear h hR e
    by_cases h1 : hin = m.i
    · have d1 : (hin != m.i) = false := by simpa using h1
      clear h1
      go_enter Tryz.func39, Tryz.ntmps39
      go_upto_region 2 with (go_at_call 34; (with_reducible refine (TR.out _ (HE.out.below blw)).mono ?_); rintro e w1 ⟨rfl, rfl⟩)
      (refine wp_region_gw (by kernel_rfl) (by kernel_rfl) ?_; (repeat (go_big_quiet_step ((fail)))); refine wpQuiet_nil ?_; intro _ hw'; obtain ⟨⟨dq, osq⟩, hw''⟩ := hw'; subst hw'')
      go_wp2_with fail
      refine bodyPost_ret (v := nilA) (by simp [results, Tryz.results39, go_sem]) rfl ?_
      exact fin _ blw
    · have d1 : (hin != m.i) = true := by simpa using h1
      clear h1
      go_enter Tryz.func39, Tryz.ntmps39
      go_upto_region 2 with (go_at_call 34; (with_reducible refine (TR.out _ (HE.out.below blw)).mono ?_); rintro e w1 ⟨rfl, rfl⟩)
      (refine wp_region_gw (by kernel_rfl) (by kernel_rfl) ?_; (repeat (go_big_quiet_step ((fail)))); refine wpQuiet_nil ?_; intro _ hw'; obtain ⟨⟨dq, osq⟩, hw''⟩ := hw'; subst hw'')
      go_wp2_with fail
      refine bodyPost_ret (v := nilA) (by simp [results, Tryz.results39, go_sem]) rfl ?_
      exact fin _ blw
  | true =>
    have hoth := (isR_iff.1 hR).1
    have e : relV m rp n = .pointer (some ⟨rp n, 0, none⟩) := by unfold relV; rw [hR]; rfl
    rw [e] at TR
    obtain ⟨⟨hok, A, c, ds, hb, hds, hmap, hcl⟩, hrC⟩ := h.ro n hoth
    haveI := hb
    have hrl := hb.lt
    haveI : LtN (rp n) w.heap.size := ⟨hrl⟩
    haveI : NeN x (rp n) := ⟨fun e => h.xE (by rw [e]; exact h.CE _ hrC)⟩
    have HRC := hide hrC
    have HOTH := hide hoth
    have HRR := hide hR
    clear e
    by_cases h1 : hin = m.i
    · have d1 : (hin != m.i) = false := by simpa using h1
      by_cases h3 : hcn = (m.rw n).cn
      · have d3 : (hcn != (m.rw n).cn) = false := by simpa using h3
        by_cases h4 : i < (m.rw n).ak
        · rw [takeAck_no (.inr (.inr (.inr h4)))]
          have d4 : decide (i < (m.rw n).ak) = true := decide_eq_true h4
          clear h h1 h3 h4 hR hok hds hmap hcl hrC hoth
          go_enter Tryz.func39, Tryz.ntmps39
          go_upto_region 2 with (go_at_call 34; (with_reducible refine (TR.out _ (HE.out.below blw)).mono ?_); rintro e w1 ⟨rfl, rfl⟩)
          (refine wp_region_gw (by kernel_rfl) (by kernel_rfl) ?_; (repeat (go_big_quiet_step ((fail)))); refine wpQuiet_nil ?_; intro _ hw'; obtain ⟨⟨dq, osq⟩, hw''⟩ := hw'; subst hw'')
          go_wp2_with fail
          refine bodyPost_ret (v := nilA) (by simp [results, Tryz.results39, go_sem]) rfl ?_
          exact fin _ blw
        · have d4 : decide (i < (m.rw n).ak) = false := decide_eq_false h4
          by_cases h5 : (m.rw n).ak < i ∧ (m.rw n).ak ≠ 0
          · rw [takeAck_anew h1 hR h3 h5.1 h5.2]
            have d5 : decide ((m.rw n).ak < i) = true := decide_eq_true h5.1
            have d6 : ((m.rw n).ak != 0) = true := by simpa using h5.2
            have HOK := hide hok
            clear h h1 h3 h4 h5 hR hok hds hmap hcl hrC hoth
            go_enter Tryz.func39, Tryz.ntmps39
            go_upto_region 2 with (go_at_call 34; (with_reducible refine (TR.out _ (HE.out.below blw)).mono ?_); rintro e w1 ⟨rfl, rfl⟩)
            (refine wp_region_gw (by kernel_rfl) (by kernel_rfl) ?_; (repeat (go_big_quiet_step ((fail)))); refine wpQuiet_nil ?_; intro _ hw'; obtain ⟨⟨dq, osq⟩, hw''⟩ := hw'; subst hw'')
            go_upto_region 4 with fail
            (refine wp_region_gw (by kernel_rfl) (by kernel_rfl) ?_; (repeat (go_big_quiet_step ((fail)))); refine wpQuiet_nil ?_; intro _ hw'; obtain ⟨⟨dq, osq⟩, hw''⟩ := hw'; subst hw'')
            go_wp2_with (go_at_call 33; (with_reducible refine (anew_s (rp n) _ _ _ _ _ _ _ _ _ inferInstance).mono ?_); rintro e w3 ⟨rfl, hb3, hg3⟩; haveI := hb3; haveI : StpG (rp n) _ w3 := ⟨hg3.grow⟩; have HG3 := hide hg3; clear hg3)
            refine bodyPost_ret (v := nilA) (by simp [results, Tryz.results39, go_sem]) rfl ?_
            have hgf : Gr [rp n, w.heap.size + 1 + 1] w _ := (((((Gr.of (C := [rp n, w.heap.size + 1 + 1]) (blw (a := w))).trans (HG3.out.mono' (by simp))).trans (Gr.set (m := rp n) _ 4 (.int .u64 i) (by simp))).trans (Gr.set (m := w.heap.size + 1 + 1) _ 0 (.slice none 0 0) (by simp))).trans (Gr.set (m := w.heap.size + 1 + 1) _ 1 (.slice none 0 0) (by simp))).trans (Gr.set (m := w.heap.size + 1 + 1) _ 2 (.slice none 0 0) (by simp))
            obtain ⟨hE, hG⟩ := tk_fin HE.out HOTH.out hgf (by intro j hj; rw [List.mem_singleton] at hj; omega) (r' := { (m.rw n).anew with ak := i }) ⟨⟨by simp [Rw.anew], by simp [Rw.anew], by simp [Rw.anew], by simp [Rw.anew], HOK.out.s0, HOK.out.s1⟩, none, 0, [], inferInstance, Bds.nil _ _ _, rfl, Nat.le_refl _⟩
            exact RetTk.nil hE hG
          · by_cases h6 : s ≤ (m.rw n).ba ∨ ((m.rw n).due : Int) < s - (m.rw n).ba
            · rw [takeAck_stay h1 hR h3 h4 h5 h6]
              exact takeAck_c1 w HE.out now n i d hcn s hin now0 now1 hn s0 s1 hR h1 h3 h4 h5 h6
            · obtain ⟨k, hk⟩ : ∃ k : Nat, s = (m.rw n).ba + k := ⟨(s - (m.rw n).ba).toNat, by omega⟩
              rw [takeAck_on h1 hR h3 h4 h5 (by omega) (by omega) hk]
              exact takeAck_c2 w HE.out now n i d hcn s hin now0 now1 hn s0 s1 hR h1 h3 h4 h5 k (by omega) (by omega) hk
      · rw [takeAck_no (.inr (.inr (.inl h3)))]
        have d3 : (hcn != (m.rw n).cn) = true := by simpa using h3
        clear h h1 h3 hR hok hds hmap hcl hrC hoth
        go_enter Tryz.func39, Tryz.ntmps39
        go_upto_region 2 with (go_at_call 34; (with_reducible refine (TR.out _ (HE.out.below blw)).mono ?_); rintro e w1 ⟨rfl, rfl⟩)
        (refine wp_region_gw (by kernel_rfl) (by kernel_rfl) ?_; (repeat (go_big_quiet_step ((fail)))); refine wpQuiet_nil ?_; intro _ hw'; obtain ⟨⟨dq, osq⟩, hw''⟩ := hw'; subst hw'')
        go_wp2_with fail
        refine bodyPost_ret (v := nilA) (by simp [results, Tryz.results39, go_sem]) rfl ?_
        exact fin _ blw
    · rw [takeAck_no (.inl h1)]
      have d1 : (hin != m.i) = true := by simpa using h1
      clear h h1 hR hok hds hmap hcl hrC hoth
      go_enter Tryz.func39, Tryz.ntmps39
      go_upto_region 2 with (go_at_call 34; (with_reducible refine (TR.out _ (HE.out.below blw)).mono ?_); rintro e w1 ⟨rfl, rfl⟩)
      (refine wp_region_gw (by kernel_rfl) (by kernel_rfl) ?_; (repeat (go_big_quiet_step ((fail)))); refine wpQuiet_nil ?_; intro _ hw'; obtain ⟨⟨dq, osq⟩, hw''⟩ := hw'; subst hw'')
      go_wp2_with fail
      refine bodyPost_ret (v := nilA) (by simp [results, Tryz.results39, go_sem]) rfl ?_
      exact fin _ blw
end
end Go.Proofs.YtniogmefbjfoaaaGreat

namespace Go.Proofs.YtniogmefbjfoaaaGreat
set_option linter.unusedSimpArgs false
set_option linter.unusedVariables false
set_option linter.unusedSectionVars false
open Go.RowKit Go.Maps

theorem PkIn.stp {a W : World} {x : Pk} {HA BA PA : Option Addr} (h : PkIn a x HA BA PA) (hb : Below a.heap.size a W) : PkIn W x HA BA PA := haveI : Blw a W := ⟨hb⟩; h.tc
theorem AnsM.form {base : Nat} {W : World} {v : Value} {a : An} (h : AnsM base W v a) : ∃ A1 c1 A2 c2 A3 c3, v = .agg #[.slice A1 a.ps.length c1, .slice A2 a.bs.length c2, .slice A3 a.fl.length c3] := by
  obtain ⟨pv, ps, bv, cs, fv, rfl, h2, h3, h4, h5, h6⟩ := h
  obtain ⟨A1, c1, rfl, _⟩ := own_slice h2.row
  obtain ⟨A2, c2, rfl, _⟩ := own_slice h4.row
  obtain ⟨A3, c3, rfl, _⟩ := own_slice h6
  rw [← h3, ← h5, List.length_map, List.length_map]
  exact ⟨_, _, _, _, _, _, rfl⟩
theorem count_iff {x k : Int} : countB x k = true ↔ k ≤ x ∧ x ≤ 34359738367 := by unfold countB; simp
theorem okH_mem {n : Int} {hs : List Hd} (h : headsB n hs = true) : ∀ y ∈ hs, 1 ≤ y.d ∧ y.d ≤ 10 ∧ y.d ≠ n := by
  intro y hy
  obtain ⟨k, hk, rfl⟩ := List.mem_iff_getElem.1 hy
  unfold headsB at h
  have h1 := List.all_eq_true.1 h k (List.mem_range.2 hk)
  unfold okH headB at h1
  have e : hs.getD k default = hs[k] := by simp [List.getD, hk]
  rw [e] at h1
  simp at h1
  exact ⟨by omega, by omega, h1.1.2.2.1⟩
theorem life_iff {n i : Int} (h : lifeB n i = true) : 1 ≤ n ∧ n ≤ 10 := by
  unfold lifeB mayB at h
  simp at h
  omega
/-- what a packet that may be has -/
theorem may_data {p : Pk} (h : p.mayB = true) (hk : p.k = 2) : (1 ≤ p.n ∧ p.n ≤ 10) ∧ ∀ y ∈ p.hs, 0 ≤ y.s ∧ y.s ≤ 18446744073709551615 := by
  unfold Pk.mayB mayKB at h
  rw [hk, if_neg (by decide), if_pos rfl] at h
  unfold dataB sentB at h
  simp only [Bool.and_eq_true] at h
  refine ⟨life_iff h.1.1, fun y hy => ?_⟩
  have h1 := List.all_eq_true.1 h.2.2.2 y hy
  unfold dataH at h1
  simp only [Bool.and_eq_true] at h1
  have := count_iff.1 h1.1
  omega
theorem may_ack {p : Pk} (h : p.mayB = true) (hk : ¬ p.k = 2) : ∀ y ∈ p.hs, (1 ≤ p.n ∧ p.n ≤ 10) ∧ 0 ≤ y.s ∧ y.s ≤ 18446744073709551615 := by
  intro y hy
  unfold Pk.mayB mayKB at h
  by_cases h1 : p.k = 1
  · rw [if_pos h1] at h
    simp only [Bool.and_eq_true] at h
    have h2 := h.2.2.1
    have h3 := List.length_pos_of_mem hy
    simp at h2
    rw [h2] at h3
    simp at h3
  · rw [if_neg h1, if_neg hk] at h
    by_cases h3 : p.k = 3
    · rw [if_pos h3] at h
      unfold ackB sentB at h
      simp only [Bool.and_eq_true] at h
      have hl : p.hs.length = 1 := by have := h.2.1; simp at this; omega
      obtain ⟨z, hz⟩ : ∃ z, p.hs = [z] := by
        match hp : p.hs, hl with
        | [z], _ => exact ⟨z, rfl⟩
      have hyz : y = z := by rw [hz] at hy; simpa using hy
      have h4 := h.2.2.2
      rw [hz] at h4
      simp only [List.getD_cons_zero] at h4
      subst hyz
      unfold ackH at h4
      simp only [Bool.and_eq_true] at h4
      have := count_iff.1 h4.1
      exact ⟨life_iff h.1.1, by omega, by omega⟩
    · rw [if_neg h3] at h
      cases h
theorem find_at {hs : List Hd} {n : Int} {k : Nat} {y : Hd} (hk : hs[k]? = some y) (hy : y.d = n) (hb : ∀ z ∈ hs.take k, z.d ≠ n) : hs.find? (fun h => decide (h.d = n)) = some y := by
  have hl := (List.getElem?_eq_some_iff.1 hk).1
  have e : hs = hs.take k ++ (y :: hs.drop (k + 1)) := by
    have h2 : hs.drop k = y :: hs.drop (k + 1) := by
      rw [List.drop_eq_getElem_cons hl]
      obtain ⟨_, h3⟩ := List.getElem?_eq_some_iff.1 hk
      rw [h3]
    rw [← h2, List.take_append_drop]
  rw [e, List.find?_append, List.find?_eq_none.2 (fun z hz => by simpa using hb z hz)]
  simp [hy]
section
variable {E C : List Nat} {x : Nat} {m : En} {rb fb : Nat} {rp cp : Int → Nat}
theorem hin_hl {w : World} {p : Pk} {HA BA PA : Option Addr} (h : PkIn w p HA BA PA) : p.hs.length ≤ 1000000 := h.hl
theorem take_fin {w Wx w2 Wf : World} {C2 : List Nat} {m' : En} {cp2 : Int → Nat} {v : Value} {a : An} {b6 B0 : Nat} (hbx : Below w.heap.size w Wx) (h1 : w.heap.size ≤ b6) (h2 : b6 < Wx.heap.size) (ha : AnsI Wx.heap.size B0 w2 v a) (hB : Wx.heap.size ≤ B0) (hE2 : EnM w2 (rgB B0 w2 ++ (C2 ++ (b6 :: E))) C2 x m' rb fb rp cp2) (ht : Tr C C2 Wx w2) (hC : ∀ i ∈ C, i < w.heap.size) (h6 : Gr [b6] w2 Wf) :
    AnsI w.heap.size B0 Wf v a ∧ EnM Wf (rgB B0 Wf ++ (C2 ++ E)) C2 x m' rb fb rp cp2 ∧ Tr C C2 w Wf := by
  have hz := hbx.size
  have hn6 : b6 ∉ C2 := fun hm => by
    rcases ht.n _ hm with h3 | h3
    · have := hC _ h3; omega
    · omega
  refine ⟨(ha.gr h6 (by intro j hj; rw [List.mem_singleton] at hj; omega) hB).lo hz, hE2.keep ⟨h6.mono' (by simp), fun j hj => ?_⟩ (fun j hj => h6.blk j (hE2.ltE j (hE2.CE j hj)) (fun hm => by rw [List.mem_singleton] at hm; subst hm; exact hn6 hj)) (fun j hj => List.mem_append_right _ (List.mem_append_left _ hj)) (fun j hj => ?_), ⟨?_, fun j hj => ?_⟩⟩
  · rcases List.mem_append.1 hj with hj | hj
    · rcases rgB_n (X := w2) hj with h3 | h3
      · exact .inl (List.mem_append_left _ h3)
      · exact .inr h3
    rcases List.mem_append.1 hj with hj | hj
    · exact .inl (List.mem_append_right _ (List.mem_append_left _ hj))
    · exact .inl (List.mem_append_right _ (List.mem_append_right _ (List.mem_cons_of_mem _ hj)))
  · rcases List.mem_append.1 hj with hj | hj
    · exact (mem_rgB.1 hj).2
    refine Nat.lt_of_lt_of_le (hE2.ltE j ?_) h6.size
    rcases List.mem_append.1 hj with hj | hj
    · exact List.mem_append_right _ (List.mem_append_left _ hj)
    · exact List.mem_append_right _ (List.mem_append_right _ (List.mem_cons_of_mem _ hj))
  · exact (((Gr.of (C := b6 :: C) hbx).trans (ht.g.mono' (fun j hj => List.mem_cons_of_mem _ hj))).trans (h6.mono' (by simp))).less (fun j hj => by
      rcases List.mem_cons.1 hj with rfl | hj
      · exact .inr h1
      · exact .inl hj)
  · rcases ht.n j hj with h3 | h3
    · exact .inl h3
    · exact .inr (by omega)
theorem EnM.addC {W : World} {D : List Nat} (h : EnM W (D ++ E) C x m rb fb rp cp) (hs : ∀ i ∈ C, i ∈ E) : EnM W (D ++ (C ++ E)) C x m rb fb rp cp := h.less (fun i hi => by
  rcases List.mem_append.1 hi with hi | hi
  · exact List.mem_append_left _ hi
  rcases List.mem_append.1 hi with hi | hi
  · exact h.CE i hi
  · exact List.mem_append_right _ hi) (fun i hi => List.mem_append_right _ (List.mem_append_left _ hi))
set_option maxRecDepth 100000 in
set_option maxHeartbeats 8000000 in
theorem take16_s (w : World) (h : EnM w E C x m rb fb rp cp) (now : Int) (now0 : 0 ≤ now) (now1 : now ≤ 18446744073709551615) (p : Pk) (HA : Option Addr) (hcp : Nat) (BA : Option Addr) (bcp : Nat) (PA : Option Addr) (pcp : Nat) (hin : PkIn w p HA BA PA) (hB : RO w C 1 BA p.bs.length (bcs p.bs)) :
    Calls Tryz.prog 13 #[.pointer (some ⟨x, 0, none⟩), .int .u64 now, p.at HA hcp BA bcp PA pcp] w (RetTd w E C x rb fb rp (m.take now p)) := by
  have HE := hide h
  have HIN := hide hin
  have HB := hide hB
  haveI := h.bx
  have hxl := h.bx.lt
  haveI : LtN x w.heap.size := ⟨hxl⟩
  have TM := hide (fun W (h : PkIn W p HA BA PA) => kmayc_s p HA hcp BA bcp PA pcp W h)
  have hmn : ∀ W, Sem.run Tryz.prog (binOp BinOp.eql 61 (.map (some rb)) (.map none)) W = .ok (.bool false) W := fun W => by first | rfl | (simp [go_sem]; done) | kernel_rfl
  have fin : ∀ W : World, Below w.heap.size w W → RetTd w E C x rb fb rp (m, an0) (.returned nilA) W := fun W hb => ⟨_, C, cp, _, rfl, .nil _ _ _, hb.size, fun i hi => Nat.lt_of_lt_of_le (HE.out.ltE i (HE.out.CE i hi)) hb.size, (HE.out.below hb).self.noB, .bel hb⟩
  clear h hin hB
  cases hm : p.mayB with
  | false =>
    have er : m.take now p = (m, an0) := by unfold En.take; rw [hm]; rfl
    rw [hm] at TM
    rw [er]
    clear er hm
    go_enter Tryz.func13, Tryz.ntmps13
    go_wp2_with (go_at_call 37; (with_reducible refine (TM.out _ (HIN.out.stp blw)).mono ?_); rintro e w1 ⟨rfl, hb1⟩; haveI : Stp _ w1 := ⟨hb1⟩; clear hb1)
    refine bodyPost_ret (v := nilA) (by simp [results, Tryz.results13, go_sem]) rfl ?_
    exact fin _ blw
  | true =>
    have HM := hide hm
    rw [hm] at TM
    clear hm
    go_enter Tryz.func13, Tryz.ntmps13
    go_wp2_with (go_at_call 37; (with_reducible refine (TM.out _ (HIN.out.stp blw)).mono ?_); rintro e w1 ⟨rfl, hb1⟩; haveI : Stp _ w1 := ⟨hb1⟩; clear hb1)
    have HE6 : Hid (∀ W, Below w.heap.size w W → w.heap.size + 1 < W.heap.size → EnM W ((w.heap.size + 1) :: E) C x m rb fb rp cp) := hide (fun W hb hz => HE.out.more hb (fun j hj => by
      rcases List.mem_cons.1 hj with rfl | hj
      · exact .inr (by omega)
      · exact .inl hj) (fun j hj => List.mem_cons_of_mem _ (HE.out.CE j hj)) (fun j hj => by
      rcases List.mem_cons.1 hj with rfl | hj
      · exact hz
      · have := HE.out.ltE j hj; have := hb.size; omega))
    have HCC : Hid (∀ j ∈ C, j < w.heap.size) := hide (fun j hj => HE.out.ltE j (HE.out.CE j hj))
    have hhl := hin_hl HIN.out
    go_loopw [27] (fun j wr => ∃ k : Nat, k ≤ p.hs.length ∧ j = .int .i64 k ∧ (∀ z ∈ p.hs.take k, z.d ≠ m.n) ∧ Below w.heap.size w wr ∧ BoxAt wr w.heap.size (csK p.k p.n p.i p.hp HA p.hs.length hcp BA p.bs.length bcp p.an p.ai p.sq PA p.ps.length pcp) 43 ∧ BoxAt wr (w.heap.size + 1) #[.slice none 0 0, .slice none 0 0, .slice none 0 0] 52) (fun j _ => p.hs.length - (intOf j).toNat)
    case atStart => exact ⟨0, Nat.zero_le _, rfl, by simp, blw, inferInstance, inferInstance⟩
    case round =>
      obtain ⟨k, hk, rfl, hbf, hBw, hb0, hb1⟩ := hrel
      haveI : Blw w wr := ⟨hBw⟩
      haveI := hb0
      haveI := hb1
      haveI : BoxAt wr x #[.int .i64 m.n, .int .u64 m.i, .map (some rb), .map (some fb)] 64 := ⟨by rw [hBw.block x hxl]; exact HE.out.bx.eq⟩
      have hsz := hBw.size
      have hsz1 := hb1.lt
      have HBF := hide hbf
      have HBW := hide hBw
      clear hbf hBw
      by_cases hlt : k < p.hs.length
      · have hRd := (HIN.out.stp HBW.out).h
        obtain ⟨b, off, y, rfl, hb, hy, g1, g2, g3, g4⟩ := hRd.at4 hlt
        haveI : CellAt wr b (off + k * 4) (.int .i64 y.d) := ⟨hb, g1⟩
        haveI : CellAt wr b (off + k * 4 + 1) (.int .u64 y.c) := ⟨hb, g2⟩
        haveI : CellAt wr b (off + k * 4 + 2) (.int .u64 y.s) := ⟨hb, g3⟩
        haveI : CellAt wr b (off + k * 4 + 3) (.int .u64 y.i) := ⟨hb, g4⟩
        have HY := hide hy
        have hym := List.mem_of_getElem? hy
        have i0 : (0 : Int) ≤ (k : Int) := by omega
        have i1 : (k : Int) < (p.hs.length : Int) := by omega
        clear hRd hb hy g1 g2 g3 g4
        by_cases hd : y.d = m.n
        · have d1 : (y.d != m.n) = false := by simpa using hd
          have HF := hide (find_at HY.out hd HBF.out)
          clear hd
          by_cases hk2 : p.k = 2
          · have d2 : (p.k == 2) = true := by simpa using hk2
            have HND := hide (show (1 ≤ p.n ∧ p.n ≤ 10) ∧ 0 ≤ y.s ∧ y.s ≤ 18446744073709551615 from ⟨(may_data HM.out hk2).1, (may_data HM.out hk2).2 y hym⟩)
            have HER : Hid (m.take now p = m.takeData p.n p.i y p.bs) := hide (by unfold En.take; rw [HM.out, if_pos rfl, HF.out]; simp only [if_pos hk2])
            clear hk2 hym
            go_upto_region 6 with fail
            (refine wp_region_gw (by kernel_rfl) (by kernel_rfl) ?_; (repeat (go_big_quiet_step ((fail)))); refine wpQuiet_nil ?_; intro _ hw'; obtain ⟨⟨dq, osq⟩, hw''⟩ := hw'; subst hw'')
            go_wp2_with fail
            refine (takeData_s (E := (w.heap.size + 1) :: E) (C := C) (m := m) (rb := rb) (fb := fb) (rp := rp) (cp := cp) _ ?_ p.n p.i y.d y.c y.s y.i HND.out.1 HND.out.2.1 HND.out.2.2 BA bcp p.bs ?_ HIN.out.bl).mono ?_
            · exact HE6.out _ blw (BoxAt.lt (n := w.heap.size + 1) inferInstance)
            · exact HB.out.tr (.bel blw)
            rintro e w2 ⟨v2, C2, cp2, B2, rfl, ha, hB2, hCB2, hE2, ht⟩
            have HBX : Hid (Below w.heap.size w (gw (wr.alloc (.cells #[.int .i64 y.d, .int .u64 y.c, .int .u64 y.s, .int .u64 y.i] 93)) dq osq)) := hide blw
            have HLX : Hid (w.heap.size + 1 < (gw (wr.alloc (.cells #[.int .i64 y.d, .int .u64 y.c, .int .u64 y.s, .int .u64 y.i] 93)) dq osq).heap.size) := hide (BoxAt.lt (n := w.heap.size + 1) inferInstance)
            obtain ⟨A1, c1, A2, c2, A3, c3, rfl⟩ := ha.m.form
            haveI := (ht.box (n := w.heap.size + 1) inferInstance (fun hm => by have := HCC.out _ hm; omega)).1
            have HA2 := hide ha
            have HB2 := hide hB2
            have HCB2 := hide hCB2
            have HE2 := hide hE2
            have HT2 := hide ht
            clear ha hE2 ht hB2 hCB2
            go_wp2_with fail
            refine bodyPost_ret (v := .agg #[.slice A1 (m.takeData p.n p.i y p.bs).2.ps.length c1, .slice A2 (m.takeData p.n p.i y p.bs).2.bs.length c2, .slice A3 (m.takeData p.n p.i y p.bs).2.fl.length c3]) (by simp [results, Tryz.results13, go_sem]) rfl ?_
            obtain ⟨f1, f2, f3⟩ := take_fin (b6 := w.heap.size + 1) HBX.out (by omega) HLX.out HA2.out HB2.out HE2.out HT2.out HCC.out (((Gr.set (m := w.heap.size + 1) _ 0 (.slice A1 (m.takeData p.n p.i y p.bs).2.ps.length c1) (by simp)).trans (Gr.set (m := w.heap.size + 1) _ 1 (.slice A2 (m.takeData p.n p.i y p.bs).2.bs.length c2) (by simp))).trans (Gr.set (m := w.heap.size + 1) _ 2 (.slice A3 (m.takeData p.n p.i y p.bs).2.fl.length c3) (by simp)))
            rw [HER.out]
            exact ⟨_, _, _, _, rfl, f1, Nat.le_trans HBX.out.size HB2.out, HCB2.out, f2, f3⟩
          · have d2 : (p.k == 2) = false := by simpa using hk2
            have HND := hide (show wfI p.n ∧ 0 ≤ y.s ∧ y.s ≤ 18446744073709551615 from ⟨by have := (may_ack HM.out hk2 y hym).1; exact ⟨by omega, by omega⟩, (may_ack HM.out hk2 y hym).2⟩)
            have HER : Hid (m.take now p = m.takeAck now p.n p.i y) := hide (by unfold En.take; rw [HM.out, if_pos rfl, HF.out]; simp only [if_neg hk2])
            clear hk2 hym
            go_upto_region 6 with fail
            (refine wp_region_gw (by kernel_rfl) (by kernel_rfl) ?_; (repeat (go_big_quiet_step ((fail)))); refine wpQuiet_nil ?_; intro _ hw'; obtain ⟨⟨dq, osq⟩, hw''⟩ := hw'; subst hw'')
            go_wp2_with fail
            refine (takeAck_s (E := (w.heap.size + 1) :: E) (C := C) (m := m) (rb := rb) (fb := fb) (rp := rp) (cp := cp) _ ?_ now p.n p.i y.d y.c y.s y.i now0 now1 HND.out.1 HND.out.2.1 HND.out.2.2).mono ?_
            · exact HE6.out _ blw (BoxAt.lt (n := w.heap.size + 1) inferInstance)
            rintro e w2 ⟨v2, B2, rfl, ha, hB2, hE2, hg2⟩
            have ht : Tr C C _ w2 := .of hg2
            replace hE2 := hE2.addC (fun i hi => List.mem_cons_of_mem _ (HE.out.CE i hi))
            have hCB2 : ∀ i ∈ C, i < B2 := fun i hi => Nat.lt_of_lt_of_le (HCC.out i hi) (Nat.le_trans (Blw.size (a := w) inferInstance) hB2)
            have HBX : Hid (Below w.heap.size w (gw (wr.alloc (.cells #[.int .i64 y.d, .int .u64 y.c, .int .u64 y.s, .int .u64 y.i] 93)) dq osq)) := hide blw
            have HLX : Hid (w.heap.size + 1 < (gw (wr.alloc (.cells #[.int .i64 y.d, .int .u64 y.c, .int .u64 y.s, .int .u64 y.i] 93)) dq osq).heap.size) := hide (BoxAt.lt (n := w.heap.size + 1) inferInstance)
            obtain ⟨A1, c1, A2, c2, A3, c3, rfl⟩ := ha.m.form
            haveI := (ht.box (n := w.heap.size + 1) inferInstance (fun hm => by have := HCC.out _ hm; omega)).1
            have HA2 := hide ha
            have HB2 := hide hB2
            have HCB2 := hide hCB2
            have HE2 := hide hE2
            have HT2 := hide ht
            clear ha hE2 ht hB2 hCB2
            go_wp2_with fail
            refine bodyPost_ret (v := .agg #[.slice A1 (m.takeAck now p.n p.i y).2.ps.length c1, .slice A2 (m.takeAck now p.n p.i y).2.bs.length c2, .slice A3 (m.takeAck now p.n p.i y).2.fl.length c3]) (by simp [results, Tryz.results13, go_sem]) rfl ?_
            obtain ⟨f1, f2, f3⟩ := take_fin (b6 := w.heap.size + 1) HBX.out (by omega) HLX.out HA2.out HB2.out HE2.out HT2.out HCC.out (((Gr.set (m := w.heap.size + 1) _ 0 (.slice A1 (m.takeAck now p.n p.i y).2.ps.length c1) (by simp)).trans (Gr.set (m := w.heap.size + 1) _ 1 (.slice A2 (m.takeAck now p.n p.i y).2.bs.length c2) (by simp))).trans (Gr.set (m := w.heap.size + 1) _ 2 (.slice A3 (m.takeAck now p.n p.i y).2.fl.length c3) (by simp)))
            rw [HER.out]
            exact ⟨_, _, _, _, rfl, f1, Nat.le_trans HBX.out.size HB2.out, HCB2.out, f2, f3⟩
        · have d1 : (y.d != m.n) = true := by simpa using hd
          have HD := hide hd
          clear hd
          go_upto_region 6 with fail
          (refine wp_region_gw (by kernel_rfl) (by kernel_rfl) ?_; (repeat (go_big_quiet_step ((fail)))); refine wpQuiet_nil ?_; intro _ hw'; obtain ⟨⟨dq, osq⟩, hw''⟩ := hw'; subst hw'')
          go_wp2_with fail
          go_roundw
          case rel => exact ⟨k + 1, by omega, by go_num, fun z hz => by
            rw [take_succ_of HY.out, List.mem_append, List.mem_singleton] at hz
            rcases hz with hz | rfl
            · exact HBF.out z hz
            · exact HD.out, blw, inferInstance, inferInstance⟩
          case measure => simp [intOf]; omega
      · have hke : k = p.hs.length := by omega
        subst hke
        have HER : Hid (m.take now p = (m, an0)) := hide (by
          unfold En.take
          rw [HM.out, if_pos rfl, List.find?_eq_none.2 (fun z hz => by
            have := HBF.out z (by rw [List.take_length]; exact hz)
            simpa using this)])
        go_wp2_with fail
        refine bodyPost_ret (v := nilA) (by simp [results, Tryz.results13, go_sem]) rfl ?_
        rw [HER.out]
        exact fin _ blw
end
end Go.Proofs.YtniogmefbjfoaaaGreat

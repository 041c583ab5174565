/-
  RoundAlone: each operation of the region keeps what holds.
-/
import Derived.Test.YtkglclekieckoaaGreatRaJ
namespace Go.Proofs.YtkglclekieckoaaGreat
set_option linter.unusedSimpArgs false
set_option linter.unusedVariables false
set_option linter.unusedSectionVars false
open Go.RowKit

theorem getF_set {L : Array Bool} {i j : Nat} (h : i ≠ j) : (L.setIfInBounds i true).getD j false = L.getD j false := by rw [Array.getD_eq_getD_getElem?, Array.getD_eq_getD_getElem?, Array.getElem?_setIfInBounds_ne h]
/-- nobody else reads its slot -/
def rsOk (i : Nat) : Bool := (List.range 19).all fun j => j == i || (i == 15 && j == 17) || (i == 16 && j == 18) || !(rslot j == rslot i)
theorem rsOk_spec {i : Nat} (h : rsOk i = true) : ∀ j, j < 19 → j ≠ i → (i = 15 → j ≠ 17) → (i = 16 → j ≠ 18) → rslot j ≠ rslot i := fun j hj h1 h2 h3 => by
  have := List.all_eq_true.1 h j (List.mem_range.2 hj)
  simp only [Bool.or_eq_true, beq_iff_eq, Bool.and_eq_true, Bool.not_eq_true', beq_eq_false_iff_ne] at this
  rcases this with ((e | ⟨e1, e2⟩) | ⟨e1, e2⟩) | e
  · exact absurd e h1
  · exact absurd e2 (h2 e1)
  · exact absurd e2 (h3 e1)
  · exact e
theorem RJ.put {w : World} {g : Nat} {T0 : Array Value} {node cid seen : Int} {D D' : List Nat} {L : Array Bool} {a : Act} {W W' : World} {i d : Nat} {v : Value} (h : RJ w g T0 node cid seen D L a W) (hi : L.getD i true = false) (hi19 : i < 17) (hd : d = rslot i) (hw : d = 8 ∨ d = 9 ∨ (28 ≤ d ∧ d ≤ 42)) (hne : ∀ j, j < 19 → j ≠ i → (i = 15 → j ≠ 17) → (i = 16 → j ≠ 18) → rslot j ≠ d) (hb : Below W.heap.size W W') (ht : Tr D D' W W') (hs : ∀ i ∈ D, i ∈ D') (hdl : ∀ i ∈ D', i < W'.heap.size) (hF : RF w.heap.size D' node cid seen i (a.tmps.setIfInBounds d v) W') :
    RJ w g T0 node cid seen D' (L.setIfInBounds i true) (a.put (some d) v) W' := by
  have hz : ∀ j, 19 ≤ j → L.getD j false = false := fun j hj => by
    rw [Array.getD_eq_getD_getElem?, Array.getElem?_eq_none (by rw [h.ls]; exact hj)]; rfl
  have hif : L.getD i false = false := by
    rw [Array.getD_eq_getD_getElem?] at hi ⊢
    rw [Array.getElem?_eq_getElem (by rw [h.ls]; omega)] at hi ⊢
    exact hi
  have hset : ∀ j, L.getD j false = true → (L.setIfInBounds i true).getD j false = true := fun j hj => by
    rw [getF_set (fun e => by rw [e, hj] at hif; cases hif)]; exact hj
  refine ⟨by rw [Array.size_setIfInBounds]; exact h.ls, by show (a.tmps.setIfInBounds d v).size = 92; rw [Array.size_setIfInBounds]; exact h.sz, h.df, fun j h8 h9 hj => ?_, ⟨by rw [hb.block g h.bx.lt]; exact h.bx.eq⟩, below_step h.bel hb, hdl, fun h17 => hset 15 (h.o17 (by rw [getF_set (by omega)] at h17; exact h17)), fun h18 => hset 16 (h.o18 (by rw [getF_set (by omega)] at h18; exact h18)), fun j hj => ?_⟩
  · show (a.tmps.setIfInBounds d v)[j]? = _
    rw [Array.getElem?_setIfInBounds_ne (by omega)]
    exact h.keep j h8 h9 hj
  · show RF w.heap.size D' node cid seen j (a.tmps.setIfInBounds d v) W'
    by_cases e : j = i
    · subst e; exact hF
    · have hj' : L.getD j false = true := by rw [getF_set (Ne.symm e)] at hj; exact hj
      refine (h.f j hj').put (fun e' => ?_) hb ht hs
      by_cases h19 : j < 19
      · refine hne j h19 e (fun e1 e2 => ?_) (fun e1 e2 => ?_) e'.symm
        · subst e1 e2; rw [h.o17 hj'] at hif; cases hif
        · subst e1 e2; rw [h.o18 hj'] at hif; cases hif
      · rw [hz j (by omega)] at hj'; cases hj'
theorem RJ.store {w : World} {g : Nat} {T0 : Array Value} {node cid seen : Int} {D : List Nat} {L : Array Bool} {a : Act} {W : World} {i m : Nat} {cs : Array Value} {t : TypeId} {new : Array Value} (h : RJ w g T0 node cid seen D L a W) (hm : w.heap.size ≤ m) (hmD : m ∈ D) (hbm : BoxAt W m cs t) (ht : t = 38 ∧ i = 17 ∨ t = 43 ∧ i = 18) (hl : L.getD (i - 2) false = true) (hF : RF w.heap.size D node cid seen i a.tmps (W.setRow m new)) (hO : RF w.heap.size D node cid seen (i - 2) a.tmps (W.setRow m new)) :
    RJ w g T0 node cid seen D (L.setIfInBounds i true) a (W.setRow m new) := by
  have hset : ∀ j, j ≠ i → (L.setIfInBounds i true).getD j false = L.getD j false := fun j hj => getF_set (Ne.symm hj)
  refine ⟨by rw [Array.size_setIfInBounds]; exact h.ls, h.sz, h.df, h.keep, ⟨?_⟩, below_setRow h.bel hm new, fun i hi => by rw [setRow_size]; exact h.dl i hi, fun h17 => ?_, fun h18 => ?_, fun j hj => ?_⟩
  · rw [setRow_other _ _ _ _ (fun e => by
      have h1 := h.bx.eq
      rw [e, hbm.eq] at h1
      injection h1 with h1
      injection h1 with _ h1
      rcases ht with ⟨e, _⟩ | ⟨e, _⟩ <;> rw [e] at h1 <;> exact absurd h1 (by decide))]
    exact h.bx.eq
  · rcases ht with ⟨_, e⟩ | ⟨_, e⟩
    · subst e; rw [hset 15 (by decide)]; exact hl
    · subst e; rw [hset 17 (by decide)] at h17; rw [hset 15 (by decide)]; exact h.o17 h17
  · rcases ht with ⟨_, e⟩ | ⟨_, e⟩
    · subst e; rw [hset 18 (by decide)] at h18; rw [hset 16 (by decide)]; exact h.o18 h18
    · subst e; rw [hset 16 (by decide)]; exact hl
  · by_cases e : j = i
    · subst e; exact hF
    · by_cases e2 : j = i - 2
      · subst e2; exact hO
      · have hj' : L.getD j false = true := by rw [hset j e] at hj; exact hj
        exact (h.f j hj').row hmD hbm (by
          rcases ht with ⟨e', ei⟩ | ⟨e', ei⟩
          · exact .inl ⟨e', by omega, by omega⟩
          · exact .inr ⟨e', by omega, by omega⟩)
set_option maxRecDepth 100000 in
set_option maxHeartbeats 4000000 in
theorem ra_op0 (w : World) (g : Nat) (T0 : Array Value) (node cid seen : Int) (D : List Nat) (Q : Exit → Act → World → Prop) (L : Array Bool) (a : Act) (W : World) (hg : T0[7]? = some (.pointer (some ⟨g, 0, none⟩))) (hp0 : T0[0]? = some (.int .u64 cid)) (hp1 : T0[1]? = some (.int .u64 seen)) (hp2 : T0[2]? = some (.int .i64 node)) (hcl : clOk [raC node cid seen]) (h : RJ w g T0 node cid seen D L a W) (hi : 0 ∈ Region.ready .any (cdOps (cdP [true, true, true, false] (Tryz.f3.body.getD .skip))) L) : wpOp Tryz.prog (cdOps (cdP [true, true, true, false] (Tryz.f3.body.getD .skip))) Q 0 (fun a' W' => ∃ D', RJ w g T0 node cid seen D' (L.setIfInBounds 0 true) a' W') a W := by
  have hl : L.getD 0 true = false := (mem_ready.1 hi).1
  have h7 : a.tmps[7]? = some (.pointer (some ⟨g, 0, none⟩)) := (h.keep 7 (by decide) (by decide) (by decide)).trans hg
  haveI := h.bx
  have H := hide h
  obtain ⟨T, DD⟩ := a
  obtain rfl : DD = [] := h.df
  have hsz := hide (show T.size = 92 from h.sz)
  clear h hi hg hp0 hp1 hp2
  dsimp only [cdOps, cdP, Tryz.f3, Option.getD]
  refine wpOp_step (by rfl) (fun K' hK => ?_)
  have HK := hide hK
  clear hK
  simp only [List.getElem_toArray, List.getElem_cons_succ, List.getElem_cons_zero]
  have h7 : T[7]? = some (.pointer (some ⟨g, 0, none⟩)) := h7
  go_simp
  try (dsimp only; simp only [h7, Option.getD_some])
  exact HK.out _ _ ⟨D, H.out.put hl (by decide) rfl (by decide) (rsOk_spec (by rfl)) (Below.refl _ _) (Tr.refl _ _) (fun _ h => h) H.out.dl (Array.getElem?_setIfInBounds_self_of_lt (i := 29) (by rw [hsz.out]; decide))⟩
set_option maxRecDepth 100000 in
set_option maxHeartbeats 4000000 in
theorem ra_op2 (w : World) (g : Nat) (T0 : Array Value) (node cid seen : Int) (D : List Nat) (Q : Exit → Act → World → Prop) (L : Array Bool) (a : Act) (W : World) (hg : T0[7]? = some (.pointer (some ⟨g, 0, none⟩))) (hp0 : T0[0]? = some (.int .u64 cid)) (hp1 : T0[1]? = some (.int .u64 seen)) (hp2 : T0[2]? = some (.int .i64 node)) (hcl : clOk [raC node cid seen]) (h : RJ w g T0 node cid seen D L a W) (hi : 2 ∈ Region.ready .any (cdOps (cdP [true, true, true, false] (Tryz.f3.body.getD .skip))) L) : wpOp Tryz.prog (cdOps (cdP [true, true, true, false] (Tryz.f3.body.getD .skip))) Q 2 (fun a' W' => ∃ D', RJ w g T0 node cid seen D' (L.setIfInBounds 2 true) a' W') a W := by
  have hl : L.getD 2 true = false := (mem_ready.1 hi).1
  have h7 : a.tmps[7]? = some (.pointer (some ⟨g, 0, none⟩)) := (h.keep 7 (by decide) (by decide) (by decide)).trans hg
  haveI := h.bx
  have H := hide h
  obtain ⟨T, DD⟩ := a
  obtain rfl : DD = [] := h.df
  have hsz := hide (show T.size = 92 from h.sz)
  clear h hi hg hp0 hp1 hp2
  dsimp only [cdOps, cdP, Tryz.f3, Option.getD]
  refine wpOp_step (by rfl) (fun K' hK => ?_)
  have HK := hide hK
  clear hK
  simp only [List.getElem_toArray, List.getElem_cons_succ, List.getElem_cons_zero]
  have h7 : T[7]? = some (.pointer (some ⟨g, 0, none⟩)) := h7
  go_simp
  try (dsimp only; simp only [h7, Option.getD_some])
  exact HK.out _ _ ⟨D, H.out.put hl (by decide) rfl (by decide) (rsOk_spec (by rfl)) (Below.refl _ _) (Tr.refl _ _) (fun _ h => h) H.out.dl (Array.getElem?_setIfInBounds_self_of_lt (i := 31) (by rw [hsz.out]; decide))⟩
set_option maxRecDepth 100000 in
set_option maxHeartbeats 4000000 in
theorem ra_op4 (w : World) (g : Nat) (T0 : Array Value) (node cid seen : Int) (D : List Nat) (Q : Exit → Act → World → Prop) (L : Array Bool) (a : Act) (W : World) (hg : T0[7]? = some (.pointer (some ⟨g, 0, none⟩))) (hp0 : T0[0]? = some (.int .u64 cid)) (hp1 : T0[1]? = some (.int .u64 seen)) (hp2 : T0[2]? = some (.int .i64 node)) (hcl : clOk [raC node cid seen]) (h : RJ w g T0 node cid seen D L a W) (hi : 4 ∈ Region.ready .any (cdOps (cdP [true, true, true, false] (Tryz.f3.body.getD .skip))) L) : wpOp Tryz.prog (cdOps (cdP [true, true, true, false] (Tryz.f3.body.getD .skip))) Q 4 (fun a' W' => ∃ D', RJ w g T0 node cid seen D' (L.setIfInBounds 4 true) a' W') a W := by
  have hl : L.getD 4 true = false := (mem_ready.1 hi).1
  have h7 := (h.keep 2 (by decide) (by decide) (by decide)).trans hp2
  haveI := h.bx
  have H := hide h
  obtain ⟨T, DD⟩ := a
  obtain rfl : DD = [] := h.df
  have hsz := hide (show T.size = 92 from h.sz)
  clear h hi hg hp0 hp1 hp2
  dsimp only [cdOps, cdP, Tryz.f3, Option.getD]
  refine wpOp_step (by rfl) (fun K' hK => ?_)
  have HK := hide hK
  clear hK
  simp only [List.getElem_toArray, List.getElem_cons_succ, List.getElem_cons_zero]
  have h7 : T[2]? = some (.int .i64 node) := h7
  go_simp
  try (dsimp only; simp only [h7, Option.getD_some])
  exact HK.out _ _ ⟨D, H.out.put hl (by decide) rfl (by decide) (rsOk_spec (by rfl)) (Below.refl _ _) (Tr.refl _ _) (fun _ h => h) H.out.dl (Array.getElem?_setIfInBounds_self_of_lt (i := 33) (by rw [hsz.out]; decide))⟩
set_option maxRecDepth 100000 in
set_option maxHeartbeats 4000000 in
theorem ra_op6 (w : World) (g : Nat) (T0 : Array Value) (node cid seen : Int) (D : List Nat) (Q : Exit → Act → World → Prop) (L : Array Bool) (a : Act) (W : World) (hg : T0[7]? = some (.pointer (some ⟨g, 0, none⟩))) (hp0 : T0[0]? = some (.int .u64 cid)) (hp1 : T0[1]? = some (.int .u64 seen)) (hp2 : T0[2]? = some (.int .i64 node)) (hcl : clOk [raC node cid seen]) (h : RJ w g T0 node cid seen D L a W) (hi : 6 ∈ Region.ready .any (cdOps (cdP [true, true, true, false] (Tryz.f3.body.getD .skip))) L) : wpOp Tryz.prog (cdOps (cdP [true, true, true, false] (Tryz.f3.body.getD .skip))) Q 6 (fun a' W' => ∃ D', RJ w g T0 node cid seen D' (L.setIfInBounds 6 true) a' W') a W := by
  have hl : L.getD 6 true = false := (mem_ready.1 hi).1
  have h7 := (h.keep 0 (by decide) (by decide) (by decide)).trans hp0
  haveI := h.bx
  have H := hide h
  obtain ⟨T, DD⟩ := a
  obtain rfl : DD = [] := h.df
  have hsz := hide (show T.size = 92 from h.sz)
  clear h hi hg hp0 hp1 hp2
  dsimp only [cdOps, cdP, Tryz.f3, Option.getD]
  refine wpOp_step (by rfl) (fun K' hK => ?_)
  have HK := hide hK
  clear hK
  simp only [List.getElem_toArray, List.getElem_cons_succ, List.getElem_cons_zero]
  have h7 : T[0]? = some (.int .u64 cid) := h7
  go_simp
  try (dsimp only; simp only [h7, Option.getD_some])
  exact HK.out _ _ ⟨D, H.out.put hl (by decide) rfl (by decide) (rsOk_spec (by rfl)) (Below.refl _ _) (Tr.refl _ _) (fun _ h => h) H.out.dl (Array.getElem?_setIfInBounds_self_of_lt (i := 35) (by rw [hsz.out]; decide))⟩
set_option maxRecDepth 100000 in
set_option maxHeartbeats 4000000 in
theorem ra_op7 (w : World) (g : Nat) (T0 : Array Value) (node cid seen : Int) (D : List Nat) (Q : Exit → Act → World → Prop) (L : Array Bool) (a : Act) (W : World) (hg : T0[7]? = some (.pointer (some ⟨g, 0, none⟩))) (hp0 : T0[0]? = some (.int .u64 cid)) (hp1 : T0[1]? = some (.int .u64 seen)) (hp2 : T0[2]? = some (.int .i64 node)) (hcl : clOk [raC node cid seen]) (h : RJ w g T0 node cid seen D L a W) (hi : 7 ∈ Region.ready .any (cdOps (cdP [true, true, true, false] (Tryz.f3.body.getD .skip))) L) : wpOp Tryz.prog (cdOps (cdP [true, true, true, false] (Tryz.f3.body.getD .skip))) Q 7 (fun a' W' => ∃ D', RJ w g T0 node cid seen D' (L.setIfInBounds 7 true) a' W') a W := by
  have hl : L.getD 7 true = false := (mem_ready.1 hi).1
  have h7 := (h.keep 1 (by decide) (by decide) (by decide)).trans hp1
  haveI := h.bx
  have H := hide h
  obtain ⟨T, DD⟩ := a
  obtain rfl : DD = [] := h.df
  have hsz := hide (show T.size = 92 from h.sz)
  clear h hi hg hp0 hp1 hp2
  dsimp only [cdOps, cdP, Tryz.f3, Option.getD]
  refine wpOp_step (by rfl) (fun K' hK => ?_)
  have HK := hide hK
  clear hK
  simp only [List.getElem_toArray, List.getElem_cons_succ, List.getElem_cons_zero]
  have h7 : T[1]? = some (.int .u64 seen) := h7
  go_simp
  try (dsimp only; simp only [h7, Option.getD_some])
  exact HK.out _ _ ⟨D, H.out.put hl (by decide) rfl (by decide) (rsOk_spec (by rfl)) (Below.refl _ _) (Tr.refl _ _) (fun _ h => h) H.out.dl (Array.getElem?_setIfInBounds_self_of_lt (i := 36) (by rw [hsz.out]; decide))⟩
set_option maxRecDepth 100000 in
set_option maxHeartbeats 4000000 in
theorem ra_op1 (w : World) (g : Nat) (T0 : Array Value) (node cid seen : Int) (D : List Nat) (Q : Exit → Act → World → Prop) (L : Array Bool) (a : Act) (W : World) (hg : T0[7]? = some (.pointer (some ⟨g, 0, none⟩))) (hp0 : T0[0]? = some (.int .u64 cid)) (hp1 : T0[1]? = some (.int .u64 seen)) (hp2 : T0[2]? = some (.int .i64 node)) (hcl : clOk [raC node cid seen]) (h : RJ w g T0 node cid seen D L a W) (hi : 1 ∈ Region.ready .any (cdOps (cdP [true, true, true, false] (Tryz.f3.body.getD .skip))) L) : wpOp Tryz.prog (cdOps (cdP [true, true, true, false] (Tryz.f3.body.getD .skip))) Q 1 (fun a' W' => ∃ D', RJ w g T0 node cid seen D' (L.setIfInBounds 1 true) a' W') a W := by
  have hl : L.getD 1 true = false := (mem_ready.1 hi).1
  have l0 := ready_dep hi (k := 0) (by kernel_rfl)
  have k0 := h.f 0 l0
  haveI := h.bx
  have H := hide h
  obtain ⟨T, DD⟩ := a
  obtain rfl : DD = [] := h.df
  have hsz := hide (show T.size = 92 from h.sz)
  clear h hi hg hp0 hp1 hp2
  dsimp only [cdOps, cdP, Tryz.f3, Option.getD]
  refine wpOp_step (by rfl) (fun K' hK => ?_)
  have HK := hide hK
  clear hK
  simp only [List.getElem_toArray, List.getElem_cons_succ, List.getElem_cons_zero]
  have TN := hide (@new18_s (avo D) 2 3 W H.out.dl)
  have k0 : T[29]? = some (.agg #[.int .i64 2, .int .u64 3]) := k0
  go_simp
  refine TN.out.mono ?_
  rintro e w1 ⟨a0, ha, rfl, hok, hb⟩
  exact HK.out _ _ ⟨D, H.out.put hl (by decide) rfl (by decide) (rsOk_spec (by rfl)) hb (Tr.bel hb) (fun _ h => h) (fun j hj => Nat.lt_of_lt_of_le (H.out.dl j hj) (Below.size hb)) ⟨a0, (Array.getElem?_setIfInBounds_self_of_lt (i := 30) (by rw [hsz.out]; decide)), ha, hok⟩⟩
set_option maxRecDepth 100000 in
set_option maxHeartbeats 4000000 in
theorem ra_op3 (w : World) (g : Nat) (T0 : Array Value) (node cid seen : Int) (D : List Nat) (Q : Exit → Act → World → Prop) (L : Array Bool) (a : Act) (W : World) (hg : T0[7]? = some (.pointer (some ⟨g, 0, none⟩))) (hp0 : T0[0]? = some (.int .u64 cid)) (hp1 : T0[1]? = some (.int .u64 seen)) (hp2 : T0[2]? = some (.int .i64 node)) (hcl : clOk [raC node cid seen]) (h : RJ w g T0 node cid seen D L a W) (hi : 3 ∈ Region.ready .any (cdOps (cdP [true, true, true, false] (Tryz.f3.body.getD .skip))) L) : wpOp Tryz.prog (cdOps (cdP [true, true, true, false] (Tryz.f3.body.getD .skip))) Q 3 (fun a' W' => ∃ D', RJ w g T0 node cid seen D' (L.setIfInBounds 3 true) a' W') a W := by
  have hl : L.getD 3 true = false := (mem_ready.1 hi).1
  have l2 := ready_dep hi (k := 2) (by kernel_rfl)
  have k2 := h.f 2 l2
  haveI := h.bx
  have H := hide h
  obtain ⟨T, DD⟩ := a
  obtain rfl : DD = [] := h.df
  have hsz := hide (show T.size = 92 from h.sz)
  clear h hi hg hp0 hp1 hp2
  dsimp only [cdOps, cdP, Tryz.f3, Option.getD]
  refine wpOp_step (by rfl) (fun K' hK => ?_)
  have HK := hide hK
  clear hK
  simp only [List.getElem_toArray, List.getElem_cons_succ, List.getElem_cons_zero]
  have k2 : T[31]? = some (.agg #[.int .i64 2, .int .u64 3]) := k2
  go_simp
  exact HK.out _ _ ⟨D, H.out.put hl (by decide) rfl (by decide) (rsOk_spec (by rfl)) (below_alloc W _) (Tr.bel (below_alloc W _)) (fun _ h => h) (fun j hj => Nat.lt_of_lt_of_le (H.out.dl j hj) (Below.size (below_alloc W _))) ⟨W.heap.size, (Array.getElem?_setIfInBounds_self_of_lt (i := 32) (by rw [hsz.out]; decide)), boxTop W _ _⟩⟩
set_option maxRecDepth 100000 in
set_option maxHeartbeats 4000000 in
theorem ra_op5 (w : World) (g : Nat) (T0 : Array Value) (node cid seen : Int) (D : List Nat) (Q : Exit → Act → World → Prop) (L : Array Bool) (a : Act) (W : World) (hg : T0[7]? = some (.pointer (some ⟨g, 0, none⟩))) (hp0 : T0[0]? = some (.int .u64 cid)) (hp1 : T0[1]? = some (.int .u64 seen)) (hp2 : T0[2]? = some (.int .i64 node)) (hcl : clOk [raC node cid seen]) (h : RJ w g T0 node cid seen D L a W) (hi : 5 ∈ Region.ready .any (cdOps (cdP [true, true, true, false] (Tryz.f3.body.getD .skip))) L) : wpOp Tryz.prog (cdOps (cdP [true, true, true, false] (Tryz.f3.body.getD .skip))) Q 5 (fun a' W' => ∃ D', RJ w g T0 node cid seen D' (L.setIfInBounds 5 true) a' W') a W := by
  have hl : L.getD 5 true = false := (mem_ready.1 hi).1
  have l4 := ready_dep hi (k := 4) (by kernel_rfl)
  have k4 := h.f 4 l4
  haveI := h.bx
  have H := hide h
  obtain ⟨T, DD⟩ := a
  obtain rfl : DD = [] := h.df
  have hsz := hide (show T.size = 92 from h.sz)
  clear h hi hg hp0 hp1 hp2
  dsimp only [cdOps, cdP, Tryz.f3, Option.getD]
  refine wpOp_step (by rfl) (fun K' hK => ?_)
  have HK := hide hK
  clear hK
  simp only [List.getElem_toArray, List.getElem_cons_succ, List.getElem_cons_zero]
  have k4 : T[33]? = some (.int .i64 node) := k4
  go_simp
  refine (life18_s node 1 W).mono ?_
  rintro e w1 ⟨rfl, rfl⟩
  exact HK.out _ _ ⟨D, H.out.put hl (by decide) rfl (by decide) (rsOk_spec (by rfl)) (below_alloc W _) (Tr.bel (below_alloc W _)) (fun _ h => h) (fun j hj => Nat.lt_of_lt_of_le (H.out.dl j hj) (Below.size (below_alloc W _))) (Array.getElem?_setIfInBounds_self_of_lt (i := 34) (by rw [hsz.out]; decide))⟩
set_option maxRecDepth 100000 in
set_option maxHeartbeats 4000000 in
theorem ra_op8 (w : World) (g : Nat) (T0 : Array Value) (node cid seen : Int) (D : List Nat) (Q : Exit → Act → World → Prop) (L : Array Bool) (a : Act) (W : World) (hg : T0[7]? = some (.pointer (some ⟨g, 0, none⟩))) (hp0 : T0[0]? = some (.int .u64 cid)) (hp1 : T0[1]? = some (.int .u64 seen)) (hp2 : T0[2]? = some (.int .i64 node)) (hcl : clOk [raC node cid seen]) (h : RJ w g T0 node cid seen D L a W) (hi : 8 ∈ Region.ready .any (cdOps (cdP [true, true, true, false] (Tryz.f3.body.getD .skip))) L) : wpOp Tryz.prog (cdOps (cdP [true, true, true, false] (Tryz.f3.body.getD .skip))) Q 8 (fun a' W' => ∃ D', RJ w g T0 node cid seen D' (L.setIfInBounds 8 true) a' W') a W := by
  have hl : L.getD 8 true = false := (mem_ready.1 hi).1
  have l5 := ready_dep hi (k := 5) (by kernel_rfl)
  have k5 := h.f 5 l5
  have l6 := ready_dep hi (k := 6) (by kernel_rfl)
  have k6 := h.f 6 l6
  have l7 := ready_dep hi (k := 7) (by kernel_rfl)
  have k7 := h.f 7 l7
  haveI := h.bx
  have H := hide h
  obtain ⟨T, DD⟩ := a
  obtain rfl : DD = [] := h.df
  have hsz := hide (show T.size = 92 from h.sz)
  clear h hi hg hp0 hp1 hp2
  dsimp only [cdOps, cdP, Tryz.f3, Option.getD]
  refine wpOp_step (by rfl) (fun K' hK => ?_)
  have HK := hide hK
  clear hK
  simp only [List.getElem_toArray, List.getElem_cons_succ, List.getElem_cons_zero]
  have k5 : T[34]? = some (.agg #[.int .i64 node, .int .u64 1]) := k5
  have k6 : T[35]? = some (.int .u64 cid) := k6
  have k7 : T[36]? = some (.int .u64 seen) := k7
  go_simp
  exact HK.out _ _ ⟨D, H.out.put hl (by decide) rfl (by decide) (rsOk_spec (by rfl)) (Below.refl _ _) (Tr.refl _ _) (fun _ h => h) H.out.dl (Array.getElem?_setIfInBounds_self_of_lt (i := 37) (by rw [hsz.out]; decide))⟩
set_option maxRecDepth 100000 in
set_option maxHeartbeats 4000000 in
theorem ra_op9 (w : World) (g : Nat) (T0 : Array Value) (node cid seen : Int) (D : List Nat) (Q : Exit → Act → World → Prop) (L : Array Bool) (a : Act) (W : World) (hg : T0[7]? = some (.pointer (some ⟨g, 0, none⟩))) (hp0 : T0[0]? = some (.int .u64 cid)) (hp1 : T0[1]? = some (.int .u64 seen)) (hp2 : T0[2]? = some (.int .i64 node)) (hcl : clOk [raC node cid seen]) (h : RJ w g T0 node cid seen D L a W) (hi : 9 ∈ Region.ready .any (cdOps (cdP [true, true, true, false] (Tryz.f3.body.getD .skip))) L) : wpOp Tryz.prog (cdOps (cdP [true, true, true, false] (Tryz.f3.body.getD .skip))) Q 9 (fun a' W' => ∃ D', RJ w g T0 node cid seen D' (L.setIfInBounds 9 true) a' W') a W := by
  have hl : L.getD 9 true = false := (mem_ready.1 hi).1
  have l8 := ready_dep hi (k := 8) (by kernel_rfl)
  have k8 := h.f 8 l8
  haveI := h.bx
  have H := hide h
  obtain ⟨T, DD⟩ := a
  obtain rfl : DD = [] := h.df
  have hsz := hide (show T.size = 92 from h.sz)
  clear h hi hg hp0 hp1 hp2
  dsimp only [cdOps, cdP, Tryz.f3, Option.getD]
  refine wpOp_step (by rfl) (fun K' hK => ?_)
  have HK := hide hK
  clear hK
  simp only [List.getElem_toArray, List.getElem_cons_succ, List.getElem_cons_zero]
  have k8 : T[37]? = some (.agg #[.int .i64 node, .int .u64 1, .int .u64 cid, .int .u64 seen, .int .u64 0, .bool false]) := k8
  go_simp
  exact HK.out _ _ ⟨D, H.out.put hl (by decide) rfl (by decide) (rsOk_spec (by rfl)) (below_alloc W _) (Tr.bel (below_alloc W _)) (fun _ h => h) (fun j hj => Nat.lt_of_lt_of_le (H.out.dl j hj) (Below.size (below_alloc W _))) ⟨W.heap.size, (Array.getElem?_setIfInBounds_self_of_lt (i := 38) (by rw [hsz.out]; decide)), boxTop W _ _⟩⟩
set_option maxRecDepth 100000 in
set_option maxHeartbeats 4000000 in
theorem ra_op10 (w : World) (g : Nat) (T0 : Array Value) (node cid seen : Int) (D : List Nat) (Q : Exit → Act → World → Prop) (L : Array Bool) (a : Act) (W : World) (hg : T0[7]? = some (.pointer (some ⟨g, 0, none⟩))) (hp0 : T0[0]? = some (.int .u64 cid)) (hp1 : T0[1]? = some (.int .u64 seen)) (hp2 : T0[2]? = some (.int .i64 node)) (hcl : clOk [raC node cid seen]) (h : RJ w g T0 node cid seen D L a W) (hi : 10 ∈ Region.ready .any (cdOps (cdP [true, true, true, false] (Tryz.f3.body.getD .skip))) L) : wpOp Tryz.prog (cdOps (cdP [true, true, true, false] (Tryz.f3.body.getD .skip))) Q 10 (fun a' W' => ∃ D', RJ w g T0 node cid seen D' (L.setIfInBounds 10 true) a' W') a W := by
  have hl : L.getD 10 true = false := (mem_ready.1 hi).1
  have l9 := ready_dep hi (k := 9) (by kernel_rfl)
  have k9 := h.f 9 l9
  haveI := h.bx
  have H := hide h
  obtain ⟨T, DD⟩ := a
  obtain rfl : DD = [] := h.df
  have hsz := hide (show T.size = 92 from h.sz)
  clear h hi hg hp0 hp1 hp2
  dsimp only [cdOps, cdP, Tryz.f3, Option.getD]
  refine wpOp_step (by rfl) (fun K' hK => ?_)
  have HK := hide hK
  clear hK
  simp only [List.getElem_toArray, List.getElem_cons_succ, List.getElem_cons_zero]
  obtain ⟨k, k9, hb9⟩ := k9
  have k9 : T[38]? = some (.slice (some ⟨k, 0, none⟩) 1 1) := k9
  go_simp
  exact HK.out _ _ ⟨D, H.out.put hl (by decide) rfl (by decide) (rsOk_spec (by rfl)) (Below.refl _ _) (Tr.refl _ _) (fun _ h => h) H.out.dl ⟨k, (Array.getElem?_setIfInBounds_self_of_lt (i := 39) (by rw [hsz.out]; decide)), hb9⟩⟩
set_option maxRecDepth 100000 in
set_option maxHeartbeats 4000000 in
theorem ra_op11 (w : World) (g : Nat) (T0 : Array Value) (node cid seen : Int) (D : List Nat) (Q : Exit → Act → World → Prop) (L : Array Bool) (a : Act) (W : World) (hg : T0[7]? = some (.pointer (some ⟨g, 0, none⟩))) (hp0 : T0[0]? = some (.int .u64 cid)) (hp1 : T0[1]? = some (.int .u64 seen)) (hp2 : T0[2]? = some (.int .i64 node)) (hcl : clOk [raC node cid seen]) (h : RJ w g T0 node cid seen D L a W) (hi : 11 ∈ Region.ready .any (cdOps (cdP [true, true, true, false] (Tryz.f3.body.getD .skip))) L) : wpOp Tryz.prog (cdOps (cdP [true, true, true, false] (Tryz.f3.body.getD .skip))) Q 11 (fun a' W' => ∃ D', RJ w g T0 node cid seen D' (L.setIfInBounds 11 true) a' W') a W := by
  have hl : L.getD 11 true = false := (mem_ready.1 hi).1
  have l1 := ready_dep hi (k := 1) (by kernel_rfl)
  have k1 := h.f 1 l1
  have l3 := ready_dep hi (k := 3) (by kernel_rfl)
  have k3 := h.f 3 l3
  have l10 := ready_dep hi (k := 10) (by kernel_rfl)
  have k10 := h.f 10 l10
  haveI := h.bx
  have H := hide h
  obtain ⟨T, DD⟩ := a
  obtain rfl : DD = [] := h.df
  have hsz := hide (show T.size = 92 from h.sz)
  clear h hi hg hp0 hp1 hp2
  dsimp only [cdOps, cdP, Tryz.f3, Option.getD]
  refine wpOp_step (by rfl) (fun K' hK => ?_)
  have HK := hide hK
  clear hK
  simp only [List.getElem_toArray, List.getElem_cons_succ, List.getElem_cons_zero]
  obtain ⟨a0, k1, ha, hok⟩ := k1
  obtain ⟨k, k3, hb3⟩ := k3
  obtain ⟨m, k10, hb10⟩ := k10
  have k1 : T[30]? = some a0.v := k1
  have k3 : T[32]? = some (.slice (some ⟨k, 0, none⟩) 1 1) := k3
  have k10 : T[39]? = some (.agg #[.slice (some ⟨m, 0, none⟩) 1 1]) := k10
  have TR := hide (by exact renew_s D a0 (some ⟨k, 0, none⟩) 1 [(2, 3)] (some ⟨m, 0, none⟩) 1 [raC node cid seen] W hok H.out.dl (by rw [ha]; exact new_inv 2 3) (@reads_p1x W k 2 3 hb3) (by simp) (@reads_c1x W m (raC node cid seen) hb10) (by simp) hcl : Calls Tryz.prog 9 #[a0.v, .slice (some ⟨k, 0, none⟩) 1 1, .agg #[.slice (some ⟨m, 0, none⟩) 1 1]] W (RetAT D W (renewP a0.br [(2, 3)] [raC node cid seen])))
  rw [ha] at TR
  clear hb3 hb10 hok
  go_simp
  refine TR.out.mono ?_
  rintro e w1 ⟨b, u, q1, q2, rfl, q3, q4, hb⟩
  exact HK.out _ _ ⟨D, H.out.put hl (by decide) rfl (by decide) (rsOk_spec (by rfl)) hb (Tr.bel hb) (fun _ h => h) (fun j hj => Nat.lt_of_lt_of_le (H.out.dl j hj) (Below.size hb)) ⟨b, u, (Array.getElem?_setIfInBounds_self_of_lt (i := 40) (by rw [hsz.out]; decide)), q1, q2, q4⟩⟩
set_option maxRecDepth 100000 in
set_option maxHeartbeats 4000000 in
theorem ra_op12 (w : World) (g : Nat) (T0 : Array Value) (node cid seen : Int) (D : List Nat) (Q : Exit → Act → World → Prop) (L : Array Bool) (a : Act) (W : World) (hg : T0[7]? = some (.pointer (some ⟨g, 0, none⟩))) (hp0 : T0[0]? = some (.int .u64 cid)) (hp1 : T0[1]? = some (.int .u64 seen)) (hp2 : T0[2]? = some (.int .i64 node)) (hcl : clOk [raC node cid seen]) (h : RJ w g T0 node cid seen D L a W) (hi : 12 ∈ Region.ready .any (cdOps (cdP [true, true, true, false] (Tryz.f3.body.getD .skip))) L) : wpOp Tryz.prog (cdOps (cdP [true, true, true, false] (Tryz.f3.body.getD .skip))) Q 12 (fun a' W' => ∃ D', RJ w g T0 node cid seen D' (L.setIfInBounds 12 true) a' W') a W := by
  have hl : L.getD 12 true = false := (mem_ready.1 hi).1
  have l11 := ready_dep hi (k := 11) (by kernel_rfl)
  have k11 := h.f 11 l11
  haveI := h.bx
  have H := hide h
  obtain ⟨T, DD⟩ := a
  obtain rfl : DD = [] := h.df
  have hsz := hide (show T.size = 92 from h.sz)
  clear h hi hg hp0 hp1 hp2
  dsimp only [cdOps, cdP, Tryz.f3, Option.getD]
  refine wpOp_step (by rfl) (fun K' hK => ?_)
  have HK := hide hK
  clear hK
  simp only [List.getElem_toArray, List.getElem_cons_succ, List.getElem_cons_zero]
  obtain ⟨b, u, k11, q1, q2, q3⟩ := k11
  have k11 : T[40]? = some (.tuple #[b.v, u.v]) := k11
  go_simp
  exact HK.out _ _ ⟨D, H.out.put hl (by decide) rfl (by decide) (rsOk_spec (by rfl)) (Below.refl _ _) (Tr.refl _ _) (fun _ h => h) H.out.dl ⟨b, u, (Array.getElem?_setIfInBounds_self_of_lt (i := 28) (by rw [hsz.out]; decide)), q1, q2, q3⟩⟩
set_option maxRecDepth 100000 in
set_option maxHeartbeats 4000000 in
theorem ra_op13 (w : World) (g : Nat) (T0 : Array Value) (node cid seen : Int) (D : List Nat) (Q : Exit → Act → World → Prop) (L : Array Bool) (a : Act) (W : World) (hg : T0[7]? = some (.pointer (some ⟨g, 0, none⟩))) (hp0 : T0[0]? = some (.int .u64 cid)) (hp1 : T0[1]? = some (.int .u64 seen)) (hp2 : T0[2]? = some (.int .i64 node)) (hcl : clOk [raC node cid seen]) (h : RJ w g T0 node cid seen D L a W) (hi : 13 ∈ Region.ready .any (cdOps (cdP [true, true, true, false] (Tryz.f3.body.getD .skip))) L) : wpOp Tryz.prog (cdOps (cdP [true, true, true, false] (Tryz.f3.body.getD .skip))) Q 13 (fun a' W' => ∃ D', RJ w g T0 node cid seen D' (L.setIfInBounds 13 true) a' W') a W := by
  have hl : L.getD 13 true = false := (mem_ready.1 hi).1
  have l12 := ready_dep hi (k := 12) (by kernel_rfl)
  have k12 := h.f 12 l12
  haveI := h.bx
  have H := hide h
  obtain ⟨T, DD⟩ := a
  obtain rfl : DD = [] := h.df
  have hsz := hide (show T.size = 92 from h.sz)
  clear h hi hg hp0 hp1 hp2
  dsimp only [cdOps, cdP, Tryz.f3, Option.getD]
  refine wpOp_step (by rfl) (fun K' hK => ?_)
  have HK := hide hK
  clear hK
  simp only [List.getElem_toArray, List.getElem_cons_succ, List.getElem_cons_zero]
  obtain ⟨b, u, k12, q1, q2, q3⟩ := k12
  have k12 : T[28]? = some (.tuple #[b.v, u.v]) := k12
  go_simp
  exact HK.out _ _ ⟨D, H.out.put hl (by decide) rfl (by decide) (rsOk_spec (by rfl)) (Below.refl _ _) (Tr.refl _ _) (fun _ h => h) H.out.dl ⟨b, (Array.getElem?_setIfInBounds_self_of_lt (i := 41) (by rw [hsz.out]; decide)), q1⟩⟩
set_option maxRecDepth 100000 in
set_option maxHeartbeats 4000000 in
theorem ra_op14 (w : World) (g : Nat) (T0 : Array Value) (node cid seen : Int) (D : List Nat) (Q : Exit → Act → World → Prop) (L : Array Bool) (a : Act) (W : World) (hg : T0[7]? = some (.pointer (some ⟨g, 0, none⟩))) (hp0 : T0[0]? = some (.int .u64 cid)) (hp1 : T0[1]? = some (.int .u64 seen)) (hp2 : T0[2]? = some (.int .i64 node)) (hcl : clOk [raC node cid seen]) (h : RJ w g T0 node cid seen D L a W) (hi : 14 ∈ Region.ready .any (cdOps (cdP [true, true, true, false] (Tryz.f3.body.getD .skip))) L) : wpOp Tryz.prog (cdOps (cdP [true, true, true, false] (Tryz.f3.body.getD .skip))) Q 14 (fun a' W' => ∃ D', RJ w g T0 node cid seen D' (L.setIfInBounds 14 true) a' W') a W := by
  have hl : L.getD 14 true = false := (mem_ready.1 hi).1
  have l12 := ready_dep hi (k := 12) (by kernel_rfl)
  have k12 := h.f 12 l12
  haveI := h.bx
  have H := hide h
  obtain ⟨T, DD⟩ := a
  obtain rfl : DD = [] := h.df
  have hsz := hide (show T.size = 92 from h.sz)
  clear h hi hg hp0 hp1 hp2
  dsimp only [cdOps, cdP, Tryz.f3, Option.getD]
  refine wpOp_step (by rfl) (fun K' hK => ?_)
  have HK := hide hK
  clear hK
  simp only [List.getElem_toArray, List.getElem_cons_succ, List.getElem_cons_zero]
  obtain ⟨b, u, k12, q1, q2, q3⟩ := k12
  have k12 : T[28]? = some (.tuple #[b.v, u.v]) := k12
  go_simp
  exact HK.out _ _ ⟨D, H.out.put hl (by decide) rfl (by decide) (rsOk_spec (by rfl)) (Below.refl _ _) (Tr.refl _ _) (fun _ h => h) H.out.dl ⟨u, (Array.getElem?_setIfInBounds_self_of_lt (i := 42) (by rw [hsz.out]; decide)), q2, q3⟩⟩
set_option maxRecDepth 100000 in
set_option maxHeartbeats 4000000 in
theorem ra_op15 (w : World) (g : Nat) (T0 : Array Value) (node cid seen : Int) (D : List Nat) (Q : Exit → Act → World → Prop) (L : Array Bool) (a : Act) (W : World) (hg : T0[7]? = some (.pointer (some ⟨g, 0, none⟩))) (hp0 : T0[0]? = some (.int .u64 cid)) (hp1 : T0[1]? = some (.int .u64 seen)) (hp2 : T0[2]? = some (.int .i64 node)) (hcl : clOk [raC node cid seen]) (h : RJ w g T0 node cid seen D L a W) (hi : 15 ∈ Region.ready .any (cdOps (cdP [true, true, true, false] (Tryz.f3.body.getD .skip))) L) : wpOp Tryz.prog (cdOps (cdP [true, true, true, false] (Tryz.f3.body.getD .skip))) Q 15 (fun a' W' => ∃ D', RJ w g T0 node cid seen D' (L.setIfInBounds 15 true) a' W') a W := by
  have hl : L.getD 15 true = false := (mem_ready.1 hi).1
  haveI := h.bx
  have H := hide h
  obtain ⟨T, DD⟩ := a
  obtain rfl : DD = [] := h.df
  have hsz := hide (show T.size = 92 from h.sz)
  clear h hi hg hp0 hp1 hp2
  dsimp only [cdOps, cdP, Tryz.f3, Option.getD]
  refine wpOp_step (by rfl) (fun K' hK => ?_)
  have HK := hide hK
  clear hK
  simp only [List.getElem_toArray, List.getElem_cons_succ, List.getElem_cons_zero]
  go_simp
  exact HK.out _ _ ⟨W.heap.size :: D, H.out.put hl (by decide) rfl (by decide) (rsOk_spec (by rfl)) (below_alloc W _) ((Tr.bel (below_alloc W _)).re (fun j hj => by
    rcases List.mem_cons.1 hj with rfl | hj
    · exact .inr (Nat.le_refl _)
    · exact .inl hj)) (fun _ h => List.mem_cons_of_mem _ h) (fun j hj => by
    rw [World.size_alloc]
    rcases List.mem_cons.1 hj with rfl | hj
    · omega
    · have := H.out.dl j hj; omega) ⟨W.heap.size, _, (Array.getElem?_setIfInBounds_self_of_lt (i := 8) (by rw [hsz.out]; decide)), H.out.bel.size, List.mem_cons_self, boxTop W _ _, rfl⟩⟩
set_option maxRecDepth 100000 in
set_option maxHeartbeats 4000000 in
theorem ra_op16 (w : World) (g : Nat) (T0 : Array Value) (node cid seen : Int) (D : List Nat) (Q : Exit → Act → World → Prop) (L : Array Bool) (a : Act) (W : World) (hg : T0[7]? = some (.pointer (some ⟨g, 0, none⟩))) (hp0 : T0[0]? = some (.int .u64 cid)) (hp1 : T0[1]? = some (.int .u64 seen)) (hp2 : T0[2]? = some (.int .i64 node)) (hcl : clOk [raC node cid seen]) (h : RJ w g T0 node cid seen D L a W) (hi : 16 ∈ Region.ready .any (cdOps (cdP [true, true, true, false] (Tryz.f3.body.getD .skip))) L) : wpOp Tryz.prog (cdOps (cdP [true, true, true, false] (Tryz.f3.body.getD .skip))) Q 16 (fun a' W' => ∃ D', RJ w g T0 node cid seen D' (L.setIfInBounds 16 true) a' W') a W := by
  have hl : L.getD 16 true = false := (mem_ready.1 hi).1
  haveI := h.bx
  have H := hide h
  obtain ⟨T, DD⟩ := a
  obtain rfl : DD = [] := h.df
  have hsz := hide (show T.size = 92 from h.sz)
  clear h hi hg hp0 hp1 hp2
  dsimp only [cdOps, cdP, Tryz.f3, Option.getD]
  refine wpOp_step (by rfl) (fun K' hK => ?_)
  have HK := hide hK
  clear hK
  simp only [List.getElem_toArray, List.getElem_cons_succ, List.getElem_cons_zero]
  go_simp
  exact HK.out _ _ ⟨W.heap.size :: D, H.out.put hl (by decide) rfl (by decide) (rsOk_spec (by rfl)) (below_alloc W _) ((Tr.bel (below_alloc W _)).re (fun j hj => by
    rcases List.mem_cons.1 hj with rfl | hj
    · exact .inr (Nat.le_refl _)
    · exact .inl hj)) (fun _ h => List.mem_cons_of_mem _ h) (fun j hj => by
    rw [World.size_alloc]
    rcases List.mem_cons.1 hj with rfl | hj
    · omega
    · have := H.out.dl j hj; omega) ⟨W.heap.size, _, (Array.getElem?_setIfInBounds_self_of_lt (i := 9) (by rw [hsz.out]; decide)), H.out.bel.size, List.mem_cons_self, boxTop W _ _, rfl⟩⟩
set_option maxRecDepth 100000 in
set_option maxHeartbeats 4000000 in
theorem ra_op17 (w : World) (g : Nat) (T0 : Array Value) (node cid seen : Int) (D : List Nat) (Q : Exit → Act → World → Prop) (L : Array Bool) (a : Act) (W : World) (hg : T0[7]? = some (.pointer (some ⟨g, 0, none⟩))) (hp0 : T0[0]? = some (.int .u64 cid)) (hp1 : T0[1]? = some (.int .u64 seen)) (hp2 : T0[2]? = some (.int .i64 node)) (hcl : clOk [raC node cid seen]) (h : RJ w g T0 node cid seen D L a W) (hi : 17 ∈ Region.ready .any (cdOps (cdP [true, true, true, false] (Tryz.f3.body.getD .skip))) L) : wpOp Tryz.prog (cdOps (cdP [true, true, true, false] (Tryz.f3.body.getD .skip))) Q 17 (fun a' W' => ∃ D', RJ w g T0 node cid seen D' (L.setIfInBounds 17 true) a' W') a W := by
  have hl : L.getD 17 true = false := (mem_ready.1 hi).1
  have l15 := ready_dep hi (k := 15) (by kernel_rfl)
  have k15 := h.f 15 l15
  have l13 := ready_dep hi (k := 13) (by kernel_rfl)
  have k13 := h.f 13 l13
  haveI := h.bx
  have H := hide h
  obtain ⟨T, DD⟩ := a
  obtain rfl : DD = [] := h.df
  have hsz := hide (show T.size = 92 from h.sz)
  clear h hi hg hp0 hp1 hp2
  dsimp only [cdOps, cdP, Tryz.f3, Option.getD]
  refine wpOp_step (by rfl) (fun K' hK => ?_)
  have HK := hide hK
  clear hK
  simp only [List.getElem_toArray, List.getElem_cons_succ, List.getElem_cons_zero]
  obtain ⟨n, cs, k15, hn, hnD, hbn, hcs⟩ := k15
  obtain ⟨b, k13, hbr⟩ := k13
  have k15 : T[8]? = some (.pointer (some ⟨n, 0, none⟩)) := k15
  have k13 : T[41]? = some b.v := k13
  haveI := hbn
  go_simp
  exact HK.out _ _ ⟨D, H.out.store hn hnD hbn (.inl ⟨rfl, rfl⟩) l15 ⟨n, b, k15, hn, hnD, inferInstance, hbr⟩ ⟨n, b.cs, k15, hn, hnD, inferInstance, rfl⟩⟩
set_option maxRecDepth 100000 in
set_option maxHeartbeats 4000000 in
theorem ra_op18 (w : World) (g : Nat) (T0 : Array Value) (node cid seen : Int) (D : List Nat) (Q : Exit → Act → World → Prop) (L : Array Bool) (a : Act) (W : World) (hg : T0[7]? = some (.pointer (some ⟨g, 0, none⟩))) (hp0 : T0[0]? = some (.int .u64 cid)) (hp1 : T0[1]? = some (.int .u64 seen)) (hp2 : T0[2]? = some (.int .i64 node)) (hcl : clOk [raC node cid seen]) (h : RJ w g T0 node cid seen D L a W) (hi : 18 ∈ Region.ready .any (cdOps (cdP [true, true, true, false] (Tryz.f3.body.getD .skip))) L) : wpOp Tryz.prog (cdOps (cdP [true, true, true, false] (Tryz.f3.body.getD .skip))) Q 18 (fun a' W' => ∃ D', RJ w g T0 node cid seen D' (L.setIfInBounds 18 true) a' W') a W := by
  have hl : L.getD 18 true = false := (mem_ready.1 hi).1
  have l16 := ready_dep hi (k := 16) (by kernel_rfl)
  have k16 := h.f 16 l16
  have l14 := ready_dep hi (k := 14) (by kernel_rfl)
  have k14 := h.f 14 l14
  haveI := h.bx
  have H := hide h
  obtain ⟨T, DD⟩ := a
  obtain rfl : DD = [] := h.df
  have hsz := hide (show T.size = 92 from h.sz)
  clear h hi hg hp0 hp1 hp2
  dsimp only [cdOps, cdP, Tryz.f3, Option.getD]
  refine wpOp_step (by rfl) (fun K' hK => ?_)
  have HK := hide hK
  clear hK
  simp only [List.getElem_toArray, List.getElem_cons_succ, List.getElem_cons_zero]
  obtain ⟨n, cs, k16, hn, hnD, hbn, hcs⟩ := k16
  obtain ⟨u, k14, hur, huo⟩ := k14
  have k16 : T[9]? = some (.pointer (some ⟨n, 0, none⟩)) := k16
  have k14 : T[42]? = some u.v := k14
  haveI := hbn
  go_simp
  exact HK.out _ _ ⟨D, H.out.store hn hnD hbn (.inr ⟨rfl, rfl⟩) l16 ⟨n, u, k16, hn, hnD, inferInstance, hur, huo.over (.of (grRowA W _ hnD))⟩ ⟨n, u.cs, k16, hn, hnD, inferInstance, rfl⟩⟩
theorem ra_ops (w : World) (g : Nat) (T0 : Array Value) (node cid seen : Int) (D : List Nat) (Q : Exit → Act → World → Prop) (L : Array Bool) (a : Act) (W : World) (hg : T0[7]? = some (.pointer (some ⟨g, 0, none⟩))) (hp0 : T0[0]? = some (.int .u64 cid)) (hp1 : T0[1]? = some (.int .u64 seen)) (hp2 : T0[2]? = some (.int .i64 node)) (hcl : clOk [raC node cid seen]) (h : RJ w g T0 node cid seen D L a W) (i : Nat) (hi : i ∈ Region.ready .any (cdOps (cdP [true, true, true, false] (Tryz.f3.body.getD .skip))) L) : wpOp Tryz.prog (cdOps (cdP [true, true, true, false] (Tryz.f3.body.getD .skip))) Q i (fun a' W' => ∃ D', RJ w g T0 node cid seen D' (L.setIfInBounds i true) a' W') a W := by
  have h19 : i < 19 := ready_lt hi
  have hc : i = 0 ∨ i = 1 ∨ i = 2 ∨ i = 3 ∨ i = 4 ∨ i = 5 ∨ i = 6 ∨ i = 7 ∨ i = 8 ∨ i = 9 ∨ i = 10 ∨ i = 11 ∨ i = 12 ∨ i = 13 ∨ i = 14 ∨ i = 15 ∨ i = 16 ∨ i = 17 ∨ i = 18 := by omega
  rcases hc with rfl | rfl | rfl | rfl | rfl | rfl | rfl | rfl | rfl | rfl | rfl | rfl | rfl | rfl | rfl | rfl | rfl | rfl | rfl
  · exact ra_op0 w g T0 node cid seen D Q L a W hg hp0 hp1 hp2 hcl h hi
  · exact ra_op1 w g T0 node cid seen D Q L a W hg hp0 hp1 hp2 hcl h hi
  · exact ra_op2 w g T0 node cid seen D Q L a W hg hp0 hp1 hp2 hcl h hi
  · exact ra_op3 w g T0 node cid seen D Q L a W hg hp0 hp1 hp2 hcl h hi
  · exact ra_op4 w g T0 node cid seen D Q L a W hg hp0 hp1 hp2 hcl h hi
  · exact ra_op5 w g T0 node cid seen D Q L a W hg hp0 hp1 hp2 hcl h hi
  · exact ra_op6 w g T0 node cid seen D Q L a W hg hp0 hp1 hp2 hcl h hi
  · exact ra_op7 w g T0 node cid seen D Q L a W hg hp0 hp1 hp2 hcl h hi
  · exact ra_op8 w g T0 node cid seen D Q L a W hg hp0 hp1 hp2 hcl h hi
  · exact ra_op9 w g T0 node cid seen D Q L a W hg hp0 hp1 hp2 hcl h hi
  · exact ra_op10 w g T0 node cid seen D Q L a W hg hp0 hp1 hp2 hcl h hi
  · exact ra_op11 w g T0 node cid seen D Q L a W hg hp0 hp1 hp2 hcl h hi
  · exact ra_op12 w g T0 node cid seen D Q L a W hg hp0 hp1 hp2 hcl h hi
  · exact ra_op13 w g T0 node cid seen D Q L a W hg hp0 hp1 hp2 hcl h hi
  · exact ra_op14 w g T0 node cid seen D Q L a W hg hp0 hp1 hp2 hcl h hi
  · exact ra_op15 w g T0 node cid seen D Q L a W hg hp0 hp1 hp2 hcl h hi
  · exact ra_op16 w g T0 node cid seen D Q L a W hg hp0 hp1 hp2 hcl h hi
  · exact ra_op17 w g T0 node cid seen D Q L a W hg hp0 hp1 hp2 hcl h hi
  · exact ra_op18 w g T0 node cid seen D Q L a W hg hp0 hp1 hp2 hcl h hi
/-- the region, whatever its order -/
theorem ra_region (id : Nat) (Q : Exit → Act → World → Prop) (w w0 : World) (g : Nat) (T0 : Array Value) (node cid seen : Int) (hg : T0[7]? = some (.pointer (some ⟨g, 0, none⟩))) (hp0 : T0[0]? = some (.int .u64 cid)) (hp1 : T0[1]? = some (.int .u64 seen)) (hp2 : T0[2]? = some (.int .i64 node)) (hz : T0.size = 92) (hcl : clOk [raC node cid seen]) (hb : BoxAt w0 g #[.int .i64 2, .int .u64 3] 25) (hB : Below w.heap.size w w0)
    (hq : ∀ (T : Array Value) (W : World) (D : List Nat) (n8 n9 : Nat) (b : Ag) (u : Tu), T.size = 92 → T[0]? = some (.int .u64 cid) → T[1]? = some (.int .u64 seen) → T[8]? = some (.pointer (some ⟨n8, 0, none⟩)) → T[9]? = some (.pointer (some ⟨n9, 0, none⟩)) → BoxAt W n8 b.cs 38 → BoxAt W n9 u.cs 43 → b.br = (raR node cid seen).1 → u.br = (raR node cid seen).2 → @Tu.Ok (avo D) W u → Below w.heap.size w W → Q .normal ⟨T, []⟩ W) :
    (Code.region id (cdOps (cdP [true, true, true, false] (Tryz.f3.body.getD .skip))) true).wp Tryz.prog Q ⟨T0, []⟩ w0 := by
  refine wp_region_inv (by kernel_rfl) (fun L a W => ∃ D, RJ w g T0 node cid seen D L a W) ⟨[], by rfl, hz, rfl, fun _ _ _ _ => rfl, ⟨hb.eq⟩, hB.drew, (fun i hi => by cases hi), (fun h => by cases h), (fun h => by cases h), fun j hj => ?_⟩ (fun L a W i h hi => by obtain ⟨D, h⟩ := h; exact ra_ops w g T0 node cid seen D Q L a W hg hp0 hp1 hp2 hcl h i hi) (by kernel_rfl) (fun L a W h hall => ?_)
  · exfalso
    have e : ∀ j, (Array.replicate (cdOps (cdP [true, true, true, false] (Tryz.f3.body.getD .skip))).size false).getD j false = false := fun j => by
      rw [Array.getD_eq_getD_getElem?]
      by_cases h : j < (cdOps (cdP [true, true, true, false] (Tryz.f3.body.getD .skip))).size
      · rw [Array.getElem?_replicate, if_pos h]; rfl
      · rw [Array.getElem?_replicate, if_neg h]; rfl
    rw [e] at hj
    cases hj
  · obtain ⟨D, h⟩ := h
    have hF : ∀ j, j < 19 → L.getD j false = true := fun j hj => by
      have := hall j hj
      rw [Array.getD_eq_getD_getElem?] at this ⊢
      rw [Array.getElem?_eq_getElem (by rw [h.ls]; exact hj)] at this ⊢
      exact this
    obtain ⟨n8, b, a1, _, _, a2, a3⟩ := h.f 17 (hF 17 (by decide))
    obtain ⟨n9, u, b1, _, _, b2, b3, b4⟩ := h.f 18 (hF 18 (by decide))
    obtain ⟨T, DD⟩ := a
    obtain rfl : DD = [] := h.df
    exact hq T W D n8 n9 b u h.sz ((h.keep 0 (by decide) (by decide) (by decide)).trans hp0) ((h.keep 1 (by decide) (by decide) (by decide)).trans hp1) a1 b1 a2 b2 a3 b3 b4 h.bel
end Go.Proofs.YtkglclekieckoaaGreat

/-
  Contracts: registry.Drop, registry.Leave, registry.Silent.
-/
import Derived.Test.YtfddiklhjkjipaaGreatReg3
import Derived.Test.YtfddiklhjkjipaaGreatBase
namespace Go.Proofs.YtfddiklhjkjipaaGreat
set_option linter.unusedSimpArgs false
set_option linter.unusedVariables false
set_option linter.unusedSectionVars false
open Go.RowKit Go.Sort Go.Lib

theorem froz_old {w : World} {o : Obj} {p : Addr} (h : p.block < w.heap.size) (hf : w.frozen? p = false) : (w.alloc o).frozen? p = false := ((below_alloc w o).frozen h).trans hf
theorem froz_top (w : World) (cs : Array Value) (t : TypeId) (n j : Nat) (hn : n = w.heap.size) : (w.alloc (.cells cs t)).frozen? ⟨n, j, none⟩ = false := by subst hn; simp
def RetD (w : World) (l : List Cl) (b : Bool) (e : Ending) (w' : World) : Prop :=
  ∃ v, e = .returned (.tuple #[.agg #[v], .bool b]) ∧ OwnC w' w.heap.size v l ∧ Below w.heap.size w w'
abbrev bxI (a : Int) : Obj := .cells #[.int .i64 a] 3
set_option maxHeartbeats 2000000 in
theorem drop_s (A : Option Addr) (c : Nat) (l : List Cl) (a : Int) (w : World) (h : Cll w A l) (hn : l.length ≤ 1000000) :
    Calls Tryz.prog 151 #[.agg #[.slice A l.length c], .int .i64 a] w (RetD w (goneR (fun x => x.n == a) (takenR l)) (decide (0 < ((takenR l).filter (goes (fun x => x.n == a))).length))) := by
  have h1 : Cll (((w.alloc (bxR A l.length c)).alloc (bxI a)).alloc (bxR none 0 0)) A l := h.step (by repeat (first | exact Below.refl _ _ | assumption | refine bel_al ?_ _ | refine bel_gw ?_ _ _ | refine bel_drew ?_ | refine bel_drewN ?_ _))
  have hc : (((w.alloc (bxR A l.length c)).alloc (bxI a)).alloc (bxR none 0 0)).cell? ⟨w.heap.size + 1, 0, none⟩ = some (.int .i64 a) := by simp [go_sem]
  have hz : w.heap.size + 1 < (((w.alloc (bxR A l.length c)).alloc (bxI a)).alloc (bxR none 0 0)).heap.size := by simp
  have T := hide (gone_drop A c l (w.heap.size + 1) (fun x => x.n == a) _ h1 hn (fun x W hW => drop1_b x (w.heap.size + 1) a W ((hW.cell (p := ⟨w.heap.size + 1, 0, none⟩) hz).trans hc) (Nat.lt_of_lt_of_le hz hW.size)))
  obtain ⟨P, hP⟩ : ∃ P, P = (takenR l).filter (goes (fun x => x.n == a)) := ⟨_, rfl⟩
  obtain ⟨G, hG⟩ : ∃ G, G = goneR (fun x => x.n == a) (takenR l) := ⟨_, rfl⟩
  rw [← hP, ← hG] at T
  rw [← hP, ← hG]
  have HPL := hide (show (livesL P).length = P.length by simp [livesL])
  clear h h1 hP hG hc hz
  go_enter Tryz.func151, Tryz.ntmps151
  go_wp2_with fail
  with_reducible refine T.out.mono ?_
  rintro e w1 ⟨v, PA, PC, rfl, hown, hpr, hb⟩
  have hGl := own_lenC hown
  obtain ⟨RA, RC, rfl, _, _⟩ := own_slice hown
  obtain ⟨⟨d1, os1⟩, rfl⟩ := gw_of_below hb
  clear hpr hb
  go_wp2
  rw [HPL.out]
  refine bodyPost_ret (v := .tuple #[.agg #[.slice RA G.length RC], .bool (decide (0 < P.length))]) (by simp [results, Tryz.results151, go_sem]) rfl ?_
  refine ⟨.slice RA G.length RC, rfl, ?_, (by repeat (first | exact Below.refl _ _ | assumption | refine bel_al ?_ _ | refine bel_gw ?_ _ _ | refine bel_drew ?_ | refine bel_drewN ?_ _))⟩
  exact own_base (own_swap hown (by simp) (by simp)) (by simp; omega)

set_option maxHeartbeats 2000000 in
theorem leave_s (A : Option Addr) (c : Nat) (l : List Cl) (a b : Int) (w : World) (h : Cll w A l) (hn : l.length ≤ 1000000) :
    Calls Tryz.prog 203 #[.agg #[.slice A l.length c], .agg #[.int .i64 a, .int .u64 b]] w (RetD w (goneR (fun x => eqP x.n x.i a b) (takenR l)) (decide (0 < ((takenR l).filter (goes (fun x => eqP x.n x.i a b))).length))) := by
  have h1 : Cll (((w.alloc (bxR A l.length c)).alloc (bx a b)).alloc (bxR none 0 0)) A l := h.step (by repeat (first | exact Below.refl _ _ | assumption | refine bel_al ?_ _ | refine bel_gw ?_ _ _ | refine bel_drew ?_ | refine bel_drewN ?_ _))
  have hc : (((w.alloc (bxR A l.length c)).alloc (bx a b)).alloc (bxR none 0 0)).cell? ⟨w.heap.size + 1, 0, none⟩ = some (.int .i64 a) := by simp [go_sem]
  have hc1 : (((w.alloc (bxR A l.length c)).alloc (bx a b)).alloc (bxR none 0 0)).cell? ⟨w.heap.size + 1, 1, none⟩ = some (.int .u64 b) := by simp [go_sem]
  have hz : w.heap.size + 1 < (((w.alloc (bxR A l.length c)).alloc (bx a b)).alloc (bxR none 0 0)).heap.size := by simp
  have T := hide (gone_leave A c l (w.heap.size + 1) (fun x => eqP x.n x.i a b) _ h1 hn (fun x W hW => leave1_b x (w.heap.size + 1) a b W ((hW.cell (p := ⟨w.heap.size + 1, 0, none⟩) hz).trans hc) ((hW.cell (p := ⟨w.heap.size + 1, 1, none⟩) hz).trans hc1) (Nat.lt_of_lt_of_le hz hW.size)))
  obtain ⟨P, hP⟩ : ∃ P, P = (takenR l).filter (goes (fun x => eqP x.n x.i a b)) := ⟨_, rfl⟩
  obtain ⟨G, hG⟩ : ∃ G, G = goneR (fun x => eqP x.n x.i a b) (takenR l) := ⟨_, rfl⟩
  rw [← hP, ← hG] at T
  rw [← hP, ← hG]
  have HPL := hide (show (livesL P).length = P.length by simp [livesL])
  clear h h1 hP hG hc hc1 hz
  go_enter Tryz.func203, Tryz.ntmps203
  go_wp2_with fail
  with_reducible refine T.out.mono ?_
  rintro e w1 ⟨v, PA, PC, rfl, hown, hpr, hb⟩
  have hGl := own_lenC hown
  obtain ⟨RA, RC, rfl, _, _⟩ := own_slice hown
  obtain ⟨⟨d1, os1⟩, rfl⟩ := gw_of_below hb
  clear hpr hb
  go_wp2
  rw [HPL.out]
  refine bodyPost_ret (v := .tuple #[.agg #[.slice RA G.length RC], .bool (decide (0 < P.length))]) (by simp [results, Tryz.results203, go_sem]) rfl ?_
  refine ⟨.slice RA G.length RC, rfl, ?_, (by repeat (first | exact Below.refl _ _ | assumption | refine bel_al ?_ _ | refine bel_gw ?_ _ _ | refine bel_drew ?_ | refine bel_drewN ?_ _))⟩
  exact own_base (own_swap hown (by simp) (by simp)) (by simp; omega)

set_option maxHeartbeats 2000000 in
theorem silent_s (A : Option Addr) (c : Nat) (l : List Cl) (a : Int) (w : World) (h : Cll w A l) (hn : l.length ≤ 1000000) (ha : 0 ≤ a) (ha' : a ≤ 18446744073709551615) :
    Calls Tryz.prog 95 #[.agg #[.slice A l.length c], .int .u64 a] w (RetG w (goneR (silB a) (takenR l)) (livesL ((takenR l).filter (goes (silB a))))) := by
  have h1 : Cll (((w.alloc (bxR A l.length c)).alloc (.cells #[.int .u64 a] 22)).alloc (bxR none 0 0)) A l := h.step (by repeat (first | exact Below.refl _ _ | assumption | refine bel_al ?_ _ | refine bel_gw ?_ _ _ | refine bel_drew ?_ | refine bel_drewN ?_ _))
  have hc : (((w.alloc (bxR A l.length c)).alloc (.cells #[.int .u64 a] 22)).alloc (bxR none 0 0)).cell? ⟨w.heap.size + 1, 0, none⟩ = some (.int .u64 a) := by simp [go_sem]
  have hz : w.heap.size + 1 < (((w.alloc (bxR A l.length c)).alloc (.cells #[.int .u64 a] 22)).alloc (bxR none 0 0)).heap.size := by simp
  have T := hide (gone_silent A c l (w.heap.size + 1) (silB a) _ h1 hn (fun x W hW => silent1_b x (w.heap.size + 1) a W ((hW.cell (p := ⟨w.heap.size + 1, 0, none⟩) hz).trans hc) (Nat.lt_of_lt_of_le hz hW.size) ha ha'))
  generalize livesL ((takenR l).filter (goes (silB a))) = P at T ⊢
  generalize goneR (silB a) (takenR l) = G at T ⊢
  clear h h1 hc hz ha ha'
  go_enter Tryz.func95, Tryz.ntmps95
  go_wp2_with fail
  with_reducible refine T.out.mono ?_
  rintro e w1 ⟨v, PA, PC, rfl, hown, hpr, hb⟩
  have hGl := own_lenC hown
  obtain ⟨RA, RC, rfl, _, _⟩ := own_slice hown
  obtain ⟨⟨d1, os1⟩, rfl⟩ := gw_of_below hb
  clear hb
  go_wp2
  refine bodyPost_ret (v := .tuple #[.agg #[.slice RA G.length RC], .slice PA P.length PC]) (by simp [results, Tryz.results95, go_sem]) rfl ?_
  refine ⟨.slice RA G.length RC, PA, PC, rfl, ?_, ?_, (by repeat (first | exact Below.refl _ _ | assumption | refine bel_al ?_ _ | refine bel_gw ?_ _ _ | refine bel_drew ?_ | refine bel_drewN ?_ _))⟩
  · exact own_base (own_swap hown (by simp) (by simp)) (by simp; omega)
  · exact own_base (own_swap hpr (by simp) (by simp)) (by simp; omega)

/-- the client of a node that is there -/
def findR (l : List Cl) (a : Int) : Option Cl := l.find? fun x => x.n == a && !x.gone
def fV : Option Cl → Value
  | some x => .tuple #[.agg #[.int .i64 x.n, .int .u64 x.i, .int .u64 x.cid, .int .u64 x.rnd, .int .u64 x.heard, .bool x.gone], .bool true]
  | none => .tuple #[.agg #[.int .i64 0, .int .u64 0, .int .u64 0, .int .u64 0, .int .u64 0, .bool false], .bool false]
/-- of the clients of one node there is one at most -/
def oneEach (l : List Cl) : Prop := l.Pairwise fun x y => x.n ≠ y.n
theorem find_yes {l : List Cl} {a : Int} {k : Nat} {x : Cl} (h : l[k]? = some x) (hn : x.n = a) (hg : x.gone = false) (hf : ∀ y ∈ l.take k, y.n ≠ a) : findR l a = some x := by
  unfold findR
  rw [List.find?_eq_some_iff_getElem]
  obtain ⟨hk, rfl⟩ := List.getElem?_eq_some_iff.1 h
  refine ⟨by simp [hn, hg], k, hk, rfl, fun j hj => ?_⟩
  have := hf l[j] (by rw [List.mem_take_iff_getElem]; exact ⟨j, by omega, rfl⟩)
  simp [this]
theorem find_gone {l : List Cl} (ho : oneEach l) {a : Int} {k : Nat} {x : Cl} (h : l[k]? = some x) (hn : x.n = a) (hg : x.gone = true) : findR l a = none := by
  unfold findR
  rw [List.find?_eq_none]
  intro y hy
  obtain ⟨hk, rfl⟩ := List.getElem?_eq_some_iff.1 h
  obtain ⟨j, hj, rfl⟩ := List.getElem_of_mem hy
  by_cases e : j = k
  · subst e; simp [hg]
  · have : l[j].n ≠ a := by
      rcases Nat.lt_or_gt_of_ne e with hlt | hlt
      · rw [← hn]; exact List.pairwise_iff_getElem.1 ho j k hj hk hlt
      · rw [← hn]; exact fun e => List.pairwise_iff_getElem.1 ho k j hk hj hlt e.symm
    simp [this]
theorem find_no {l : List Cl} {a : Int} (hf : ∀ y ∈ l, y.n ≠ a) : findR l a = none := by
  unfold findR
  rw [List.find?_eq_none]
  intro y hy
  simp [hf y hy]
theorem mayR_each {l : List Cl} (h : mayR l = true) : oneEach l := by
  have h2 : ∀ k, k < l.length → okR l k = true := by
    unfold mayR at h
    rw [Bool.and_eq_true, List.all_eq_true] at h
    intro k hk; exact h.1 k (List.mem_range.2 hk)
  have h3 : ∀ k, k + 1 < l.length → (l.getD k default).n < (l.getD (k + 1) default).n := by
    intro k hk
    have := h2 (k + 1) hk
    unfold okR at this
    rw [Bool.and_eq_true, Bool.or_eq_true] at this
    rcases this.2 with h | h
    · simp at h
    · simpa using h
  have h4 : ∀ j k, j < k → k < l.length → (l.getD j default).n < (l.getD k default).n := by
    intro j k
    induction k with
    | zero => intro h; omega
    | succ k ih =>
      intro hj hk
      have := h3 k hk
      rcases Nat.lt_or_eq_of_le (Nat.lt_succ_iff.1 hj) with h | h
      · have := ih h (by omega); omega
      · subst h; exact this
  refine List.pairwise_iff_getElem.2 fun j k hj hk hlt => ?_
  have := h4 j k hlt hk
  simp [List.getD, hj, hk] at this
  omega
theorem taken_each (l : List Cl) : oneEach (takenR l) := by
  unfold takenR
  split
  · exact mayR_each ‹_›
  · exact List.Pairwise.nil
def RetF (w : World) (f : Option Cl) (e : Ending) (w' : World) : Prop := e = .returned (fV f) ∧ Below w.heap.size w w'
set_option maxHeartbeats 2000000 in
theorem find_s (A : Option Addr) (c : Nat) (l : List Cl) (a : Int) (w : World) (h : Cll w A l) (hn : l.length ≤ 1000000) :
    Calls Tryz.prog 98 #[.agg #[.slice A l.length c], .int .i64 a] w (RetF w (findR (takenR l) a)) := by
  have T := hide (fun W (hW : Cll W A l) => taken_s A c l W hW hn)
  have hml := takenR_len l
  have ho := taken_each l
  generalize takenR l = m at T hml ho ⊢
  go_enter Tryz.func98, Tryz.ntmps98
  go_wp2_with fail
  with_reducible refine (T.out _ (h.step (by repeat (first | exact Below.refl _ _ | assumption | refine bel_al ?_ _ | refine bel_gw ?_ _ _ | refine bel_drew ?_ | refine bel_drewN ?_ _)))).mono ?_
  rintro e w1 ⟨v, rfl, hown, hb⟩
  obtain ⟨RA, RC, rfl, hrc, _⟩ := own_slice hown
  have hc : Cll w1 RA m := Reads.of_own hown
  obtain ⟨⟨d1, os1⟩, rfl⟩ := gw_of_below hb
  clear hb hown h
  go_wp2_with fail
  with_reducible refine (look_s RA RC m a _ hc (by omega)).mono ?_
  rintro e w2 ⟨f, hf, rfl, hb⟩
  obtain ⟨⟨d2, os2⟩, rfl⟩ := gw_of_below hb
  clear hb hc
  cases hf with
  | yes k x h hx hf =>
    obtain ⟨xn, xi, xc, xr, xh, xg⟩ := x
    simp only at hx
    cases xg
    · have H := hide (find_yes h hx rfl hf)
      clear h hx hf
      unfold kV
      go_wp2
      rw [H.out]
      refine bodyPost_ret (v := fV (some ⟨xn, xi, xc, xr, xh, false⟩)) (by simp [results, Tryz.results98, go_sem, fV]) rfl ⟨rfl, (by repeat (first | exact Below.refl _ _ | assumption | refine bel_al ?_ _ | refine bel_gw ?_ _ _ | refine bel_drew ?_ | refine bel_drewN ?_ _))⟩
    · have H := hide (find_gone ho h hx rfl)
      clear h hx hf
      unfold kV
      go_wp2
      rw [H.out]
      refine bodyPost_ret (v := fV none) (by simp [results, Tryz.results98, go_sem, fV]) rfl ⟨rfl, (by repeat (first | exact Below.refl _ _ | assumption | refine bel_al ?_ _ | refine bel_gw ?_ _ _ | refine bel_drew ?_ | refine bel_drewN ?_ _))⟩
  | no hf =>
    have H := hide (find_no hf)
    clear hf
    unfold kV
    go_wp2
    rw [H.out]
    refine bodyPost_ret (v := fV none) (by simp [results, Tryz.results98, go_sem, fV]) rfl ⟨rfl, (by repeat (first | exact Below.refl _ _ | assumption | refine bel_al ?_ _ | refine bel_gw ?_ _ _ | refine bel_drew ?_ | refine bel_drewN ?_ _))⟩

end Go.Proofs.YtfddiklhjkjipaaGreat

/-
  Contract: registry.Hear.
-/
import Derived.Test.YtfddiklhjkjipaaGreatReg6
namespace Go.Proofs.YtfddiklhjkjipaaGreat
set_option linter.unusedSimpArgs false
set_option linter.unusedVariables false
set_option linter.unusedSectionVars false
open Go.RowKit Go.Sort Go.Lib

/-- rising nodes -/
def rising (l : List Cl) : Prop := l.Pairwise fun x y => x.n < y.n
theorem mayR_rising {l : List Cl} (h : mayR l = true) : rising l := by
  have h2 : ∀ k, k < l.length → okR l k = true := by
    unfold mayR at h
    rw [Bool.and_eq_true, List.all_eq_true] at h
    intro k hk; exact h.1 k (List.mem_range.2 hk)
  have h3 : ∀ k, k + 1 < l.length → (l.getD k default).n < (l.getD (k + 1) default).n := by
    intro k hk
    have := h2 (k + 1) hk
    unfold okR at this
    rw [Bool.and_eq_true, Bool.or_eq_true] at this
    rcases this.2 with h | h
    · simp at h
    · simpa using h
  have h4 : ∀ j k, j < k → k < l.length → (l.getD j default).n < (l.getD k default).n := by
    intro j k
    induction k with
    | zero => intro h; omega
    | succ k ih =>
      intro hj hk
      have := h3 k hk
      rcases Nat.lt_or_eq_of_le (Nat.lt_succ_iff.1 hj) with h | h
      · have := ih h (by omega); omega
      · subst h; exact this
  refine List.pairwise_iff_getElem.2 fun j k hj hk hlt => ?_
  have := h4 j k hlt hk
  simpa [List.getD, hj, hk] using this
theorem taken_rising (l : List Cl) : rising (takenR l) := by
  unfold takenR
  split
  · exact mayR_rising ‹_›
  · exact List.Pairwise.nil

/-- a client put where it belongs -/
def insR (c : Cl) (l : List Cl) : List Cl := l.filter (fun x => decide (x.n < c.n)) ++ c :: l.filter (fun x => decide (c.n < x.n))
theorem insR_rising {c : Cl} {l : List Cl} (h : rising l) : rising (insR c l) := by
  unfold insR rising
  refine List.pairwise_append.2 ⟨h.filter _, List.pairwise_cons.2 ⟨?_, h.filter _⟩, ?_⟩
  · intro y hy; simpa using (List.mem_filter.1 hy).2
  · intro x hx y hy
    have h1 : x.n < c.n := by simpa using (List.mem_filter.1 hx).2
    rcases List.mem_cons.1 hy with rfl | hy
    · exact h1
    · have h2 : c.n < y.n := by simpa using (List.mem_filter.1 hy).2
      omega
theorem insR_perm {c : Cl} {l : List Cl} (hne : ∀ x ∈ l, x.n ≠ c.n) : (insR c l).Perm (l ++ [c]) := by
  unfold insR
  have h1 : l.filter (fun x => decide (c.n < x.n)) = l.filter (fun x => !decide (x.n < c.n)) := by
    apply List.filter_congr
    intro x hx
    have := hne x hx
    by_cases h : x.n < c.n
    · simp [h]; omega
    · simp [h]; omega
  rw [h1]
  refine (List.perm_middle).trans ?_
  refine List.Perm.trans (List.Perm.cons c (List.filter_append_perm _ l)) ?_
  exact (List.perm_append_comm (l₁ := [c]) (l₂ := l))
theorem insR_eq {c : Cl} {l l' : List Cl} (hr : rising l) (hne : ∀ x ∈ l, x.n ≠ c.n) (hp : l'.Perm (l ++ [c])) (hs : l'.Pairwise fun x y => ltOf cmpC y x = false) : l' = insR c l := by
  have hp' := hp.trans (insR_perm hne).symm
  have hri := insR_rising (c := c) hr
  have hs' : (insR c l).Pairwise fun x y => ltOf cmpC y x = false := hri.imp fun {x y} h => by rw [cmpC_lt]; simp; omega
  refine List.Perm.eq_of_pairwise (le := fun x y => ltOf cmpC y x = false) ?_ hs hs' hp'
  intro x y hx hy h1 h2
  have hx' : x ∈ insR c l := hp'.mem_iff.1 hx
  have hn : x.n = y.n := by rw [cmpC_lt] at h1 h2; simp at h1 h2; omega
  obtain ⟨i, hi, rfl⟩ := List.getElem_of_mem hx'
  obtain ⟨j, hj, rfl⟩ := List.getElem_of_mem hy
  rcases Nat.lt_trichotomy i j with h | h | h
  · have := List.pairwise_iff_getElem.1 hri i j hi hj h; omega
  · subst h; rfl
  · have := List.pairwise_iff_getElem.1 hri j i hj hi h; omega

def okN (kind n i : Int) : Bool := (kind == 1 || kind == 3) && mayB n i
def lessR (m : List Cl) (n : Int) : List Cl := m.filter fun x => !(x.n == n)
theorem less_rising {m : List Cl} (h : rising m) (n : Int) : rising (lessR m n) := h.filter _
theorem less_ne (m : List Cl) (n : Int) : ∀ x ∈ lessR m n, x.n ≠ n := by
  intro x hx; simpa [lessR] using (List.mem_filter.1 hx).2
/-- what hearing a client comes to -/
def hearR (m : List Cl) (now sn si kind n i rnd cid : Int) (set : List (Int × Int)) : List Cl × Int :=
  if okN kind n i = false then (m, 0) else
  match m.find? (fun x => x.n == n) with
  | some x =>
    if i < x.i then (m, 0) else
    if x.i ≠ i then (insR ⟨n, i, cid, rnd, now, false⟩ (lessR m n), 3) else
    (m.map fun y => if y.n = n then ⟨n, i, max x.cid cid, max x.rnd rnd, now, false⟩ else y, if x.gone then 3 else if decide (x.cid < cid) || (decide (cid = x.cid) && !nobB set sn si) then 2 else 1)
  | none => if 6 ≤ m.length then (m, 0) else (insR ⟨n, i, cid, rnd, now, false⟩ (lessR m n), 3)
theorem found_find {m : List Cl} {a : Int} {k : Nat} {x : Cl} (h : m[k]? = some x) (hn : x.n = a) (hf : ∀ y ∈ m.take k, y.n ≠ a) : m.find? (fun x => x.n == a) = some x := by
  rw [List.find?_eq_some_iff_getElem]
  obtain ⟨hk, rfl⟩ := List.getElem?_eq_some_iff.1 h
  refine ⟨by simp [hn], k, hk, rfl, fun j hj => ?_⟩
  have := hf m[j] (by rw [List.mem_take_iff_getElem]; exact ⟨j, by omega, rfl⟩)
  simp [this]
theorem found_none {m : List Cl} {a : Int} (hf : ∀ y ∈ m, y.n ≠ a) : m.find? (fun x => x.n == a) = none := by
  rw [List.find?_eq_none]; intro y hy; simp [hf y hy]
theorem set_map {m : List Cl} (hr : rising m) {a : Int} {k : Nat} {x z : Cl} (h : m[k]? = some x) (hn : x.n = a) : (m.map fun y => if y.n = a then z else y) = m.set k z := by
  apply List.ext_getElem?
  intro j
  obtain ⟨hk, rfl⟩ := List.getElem?_eq_some_iff.1 h
  rw [List.getElem?_map, List.getElem?_set]
  by_cases hjk : k = j
  · subst hjk; simp [hk, hn]
  · rw [if_neg hjk]
    rcases Nat.lt_or_ge j m.length with hj | hj
    · rw [List.getElem?_eq_getElem hj]
      have : m[j].n ≠ a := by
        rcases Nat.lt_or_gt_of_ne hjk with hlt | hlt
        · have := List.pairwise_iff_getElem.1 hr k j hk hj hlt; omega
        · have := List.pairwise_iff_getElem.1 hr j k hj hk hlt; omega
      simp [this]
    · rw [List.getElem?_eq_none hj]; rfl

theorem reads_two (W : World) (u v : Value) (t : TypeId) (g : Nat) (hg : g = W.heap.size) : Reads (W.alloc (.cells #[u, v] t)) (W.alloc (.cells #[u, v] t)).heap.size 1 (some ⟨g, 0, none⟩) 2 [u, v] := by
  subst hg
  refine ⟨rfl, fun _ => ⟨_, 0, rfl, by simp, fun j x hx => ?_⟩⟩
  rw [Nat.zero_add, World.cell?_alloc_new]
  simpa using hx
theorem Cll_one (W : World) (x : Cl) : Cll (W.alloc (bxC x)) (some ⟨W.heap.size, 0, none⟩) [x] := by
  have := reads_oneC W x W.heap.size rfl
  rw [Cll, World.size_alloc]; exact this
theorem size_gwe (w : World) (d : Nat) (os : Array Obj) : (gw w d os).heap.size = w.heap.size + os.size := by simp [gw]
@[go_sem] theorem cell?_set_ne (w : World) (g o n i : Nat) (v : Value) (h : ¬ n = g) : (w.setCell ⟨g, o, none⟩ v).cell? ⟨n, i, none⟩ = w.cell? ⟨n, i, none⟩ := by
  have h' : ¬ g = n := fun e => h e.symm
  unfold World.setCell World.cell?
  simp [Array.getElem?_modify, h']
theorem own_setC6 {w : World} {base g n cap : Nat} {l : List Cl} (h : w.ownsRow base 48 6 (.slice (some ⟨g, 0, none⟩) n cap) n (ccs l)) {i : Nat} {x : Cl} (y : Cl) (hx : l[i]? = some x) :
    ((((((w.setCell ⟨g, i * 6, none⟩ (.int .i64 y.n)).setCell ⟨g, i * 6 + 1, none⟩ (.int .u64 y.i)).setCell ⟨g, i * 6 + 2, none⟩ (.int .u64 y.cid)).setCell ⟨g, i * 6 + 3, none⟩ (.int .u64 y.rnd)).setCell ⟨g, i * 6 + 4, none⟩ (.int .u64 y.heard)).setCell ⟨g, i * 6 + 5, none⟩ (.bool y.gone)).ownsRow base 48 6 (.slice (some ⟨g, 0, none⟩) n cap) n (ccs (l.set i y)) ∧
    w.grownBy ((((((w.setCell ⟨g, i * 6, none⟩ (.int .i64 y.n)).setCell ⟨g, i * 6 + 1, none⟩ (.int .u64 y.i)).setCell ⟨g, i * 6 + 2, none⟩ (.int .u64 y.cid)).setCell ⟨g, i * 6 + 3, none⟩ (.int .u64 y.rnd)).setCell ⟨g, i * 6 + 4, none⟩ (.int .u64 y.heard)).setCell ⟨g, i * 6 + 5, none⟩ (.bool y.gone)) (some g) := by
  have hi := (List.getElem?_eq_some_iff.1 hx).1
  have hs : ∀ (l : List Cl) (z : Cl), i < l.length → (l.set i z)[i]? = some z := fun l z h => by simp [h]
  obtain ⟨h0, g0⟩ := own_setC h (i := i) 0 (y := { x with n := y.n }) (v := .int .i64 y.n) hx (by omega) rfl
  obtain ⟨h1, g1⟩ := own_setC h0 (i := i) 1 (y := { x with n := y.n, i := y.i }) (v := .int .u64 y.i) (hs _ _ hi) (by omega) rfl
  obtain ⟨h2, g2⟩ := own_setC h1 (i := i) 2 (y := { x with n := y.n, i := y.i, cid := y.cid }) (v := .int .u64 y.cid) (hs _ _ (by simpa using hi)) (by omega) rfl
  obtain ⟨h3, g3⟩ := own_setC h2 (i := i) 3 (y := { x with n := y.n, i := y.i, cid := y.cid, rnd := y.rnd }) (v := .int .u64 y.rnd) (hs _ _ (by simpa using hi)) (by omega) rfl
  obtain ⟨h4, g4⟩ := own_setC h3 (i := i) 4 (y := { x with n := y.n, i := y.i, cid := y.cid, rnd := y.rnd, heard := y.heard }) (v := .int .u64 y.heard) (hs _ _ (by simpa using hi)) (by omega) rfl
  obtain ⟨h5, g5⟩ := own_setC h4 (i := i) 5 (y := y) (v := .bool y.gone) (hs _ _ (by simpa using hi)) (by omega) rfl
  rw [List.set_set, List.set_set, List.set_set, List.set_set, List.set_set] at h5
  exact ⟨h5, g0.trans (g1.trans (g2.trans (g3.trans (g4.trans g5))))⟩
theorem joined_two (A1 : Option Addr) (c1 : Nat) (l1 : List Cl) (A2 : Option Addr) (c2 : Nat) (l2 : List Cl) (w : World) (g : Nat) (h0 : w.cell? ⟨g, 0, none⟩ = some (.slice A1 l1.length c1)) (h1 : w.cell? ⟨g, 1, none⟩ = some (.slice A2 l2.length c2)) (hg : g < w.heap.size) (hc1 : Cll w A1 l1) (hc2 : Cll w A2 l2) (hn : l1.length + l2.length ≤ 1000000) :
    Calls Tryz.prog 262 #[.slice (some ⟨g, 0, none⟩) 2 2] w (RetJ w (l1 ++ l2)) := by
  have := joined_s (some ⟨g, 0, none⟩) 2 [⟨A1, c1, l1⟩, ⟨A2, c2, l2⟩] w ⟨rfl, fun _ => ⟨g, 0, rfl, hg, fun j u hu => ?_⟩⟩ ?_ (by simp) (by simpa [flatC] using hn)
  · simpa [flatC] using this
  · match j with
    | 0 => simp [svcs, Svc.v] at hu; subst hu; exact h0
    | 1 => simp [svcs, Svc.v] at hu; subst hu; exact h1
    | j + 2 => simp [svcs] at hu
  · intro x hx
    simp only [List.mem_cons, List.not_mem_nil, or_false] at hx
    rcases hx with rfl | rfl
    · exact hc1
    · exact hc2
abbrev bxN7 (kind n i rnd cid : Int) (v5 v6 v7 v8 v9 v10 : Value) : Obj := .cells #[.int .i64 kind, .int .i64 n, .int .u64 i, .int .u64 rnd, .int .u64 cid, v5, v6, v7, v8, v9, v10] 109
def RetH (w : World) (r : List Cl × Int) (e : Ending) (w' : World) : Prop := ∃ v, e = .returned (.tuple #[.agg #[v], .int .i64 r.2]) ∧ OwnC w' w.heap.size v r.1 ∧ Below w.heap.size w w'
set_option maxRecDepth 100000 in
set_option maxHeartbeats 8000000 in
theorem hear_s (A : Option Addr) (c : Nat) (l : List Cl) (now sn si kind n i rnd cid : Int) (SA : Option Addr) (sc : Nat) (set : List (Int × Int)) (v6 v7 v8 v9 v10 : Value) (w : World) (h : Cll w A l) (hn : l.length ≤ 1000000) (hS : Reads w w.heap.size 2 SA set.length (pcs set)) (hsn : set.length ≤ 9223372036854775807) :
    Calls Tryz.prog 204 #[.agg #[.slice A l.length c], .int .u64 now, .agg #[.int .i64 sn, .int .u64 si], .agg #[.int .i64 kind, .int .i64 n, .int .u64 i, .int .u64 rnd, .int .u64 cid, .slice SA set.length sc, v6, v7, v8, v9, v10]] w (RetH w (hearR (takenR l) now sn si kind n i rnd cid set)) := by
  have T := hide (fun W (hW : Cll W A l) => taken_s A c l W hW hn)
  have hml := takenR_len l
  have hri := taken_rising l
  generalize takenR l = m at T hml hri ⊢
  have HR := hide hri
  clear hri
  go_enter Tryz.func204, Tryz.ntmps204
  go_wp2_with fail
  with_reducible refine (T.out _ (h.step (by repeat (first | exact Below.refl _ _ | assumption | refine bel_al ?_ _ | refine bel_gw ?_ _ _ | refine bel_drew ?_ | refine bel_drewN ?_ _)))).mono ?_
  rintro e w1 ⟨v, rfl, hown, hb⟩
  obtain ⟨RA, RC, rfl, hrc, _⟩ := own_slice hown
  obtain ⟨⟨d1, os1⟩, rfl⟩ := gw_of_below hb
  have HO := hide hown
  clear hb h hown
  by_cases hk : kind = 1 ∨ kind = 3
  · rcases hk with rfl | rfl
    · cases hmay : mayB n i
      · have HH := hide (show hearR m now sn si 1 n i rnd cid set = (m, 0) by simp [hearR, okN, hmay])
        go_wp2_with (go_at_call 112; refine (may_any _ _ _).mono ?_; rintro e w' ⟨rfl, rfl⟩)
        rw [HH.out]
        refine bodyPost_ret (v := .tuple #[.agg #[.slice RA m.length RC], .int .i64 0]) (by simp [results, Tryz.results204, go_sem]) rfl ?_
        exact ⟨_, rfl, own_base ((own_swap HO.out (by simp) (by simp)).alloc _) (by simp; omega), (by repeat (first | exact Below.refl _ _ | assumption | refine bel_al ?_ _ | refine bel_gw ?_ _ _ | refine bel_drew ?_ | refine bel_drewN ?_ _))⟩
      · have HOK := hide (show okN 1 n i = true by simp [okN, hmay])
        go_wp2_with fail
        with_reducible refine (may_b n i _).mono ?_
        rintro e w2 ⟨rfl, hb⟩
        rw [hmay]
        have HO2 := hide (own_below (own_swap (W' := ((((w.alloc (bxR RA m.length RC)).alloc (bx sn si)).alloc (bxN7 1 n i rnd cid (.slice SA set.length sc) v6 v7 v8 v9 v10)).alloc (bxR none 0 0))) (d' := d1) HO.out (by simp) (by simp)) hb (Nat.le_refl _))
        obtain ⟨⟨d2, os2⟩, rfl⟩ := gw_more hb
        clear hb HO
        have hc : Cll (gw ((((w.alloc (bxR RA m.length RC)).alloc (bx sn si)).alloc (bxN7 1 n i rnd cid (.slice SA set.length sc) v6 v7 v8 v9 v10)).alloc (bxR none 0 0)) d2 os2) RA m := Reads.of_own HO2.out
        go_wp2_with fail
        with_reducible refine (look_s RA RC m n _ hc (by omega)).mono ?_
        rintro e w3 ⟨f, hf, rfl, hb⟩
        have HO3 := hide (own_below HO2.out hb (Nat.le_refl _))
        obtain ⟨⟨d3, os3⟩, rfl⟩ := gw_more hb
        clear hb HO2 hc
        cases hf with
        | yes k x h hx hf =>
          have HF := hide (found_find h hx hf)
          have HX := hide h
          have hkl : k < m.length := (List.getElem?_eq_some_iff.1 h).1
          have HSM := hide (fun z => set_map (z := z) HR.out h hx)
          obtain ⟨xn, xi, xc, xr, xh, xg⟩ := x
          simp only at hx
          subst hx
          clear h hf
          unfold kV
          by_cases hlt : i < xi
          · have HH := hide (show hearR m now sn si 1 xn i rnd cid set = (m, 0) by simp [hearR, HOK.out, HF.out, hlt])
            go_wp2
            rw [HH.out]
            refine bodyPost_ret (v := .tuple #[.agg #[.slice RA m.length RC], .int .i64 0]) (by simp [results, Tryz.results204, go_sem]) rfl ?_
            exact ⟨_, rfl, own_base ((own_swap HO3.out (by simp) (by simp)).alloc _) (by simp; omega), (by repeat (first | exact Below.refl _ _ | assumption | refine bel_al ?_ _ | refine bel_gw ?_ _ _ | refine bel_drew ?_ | refine bel_drewN ?_ _))⟩
          · by_cases heq : xi = i
            · subst heq
              have e1 : eqP xn xi xn xi = true := by simp [eqP]
              clear hlt
              have hcc : Reads (gw ((((w.alloc (bxR RA m.length RC)).alloc (bx sn si)).alloc (bxN7 1 xn xi rnd cid (.slice SA set.length sc) v6 v7 v8 v9 v10)).alloc (bxR none 0 0)) d3 os3) (gw ((((w.alloc (bxR RA m.length RC)).alloc (bx sn si)).alloc (bxN7 1 xn xi rnd cid (.slice SA set.length sc) v6 v7 v8 v9 v10)).alloc (bxR none 0 0)) d3 os3).heap.size 2 SA set.length (pcs set) := (Reads.below hS (by repeat (first | exact Below.refl _ _ | assumption | refine bel_al ?_ _ | refine bel_gw ?_ _ _ | refine bel_drew ?_ | refine bel_drewN ?_ _))).more (by simp [size_gwe]; omega)
              obtain ⟨q, hq⟩ : ∃ q : Int, q = (if xg then 3 else if decide (xc < cid) || (decide (cid = xc) && !nobB set sn si) then 2 else 1) := ⟨_, rfl⟩
              have HH := hide (show hearR m now sn si 1 xn xi rnd cid set = (m.set k ⟨xn, xi, max xc cid, max xr rnd, now, false⟩, q) by
                rw [← HSM.out, hq]; simp [hearR, HOK.out, HF.out])
              have hown := HO3.out
              obtain ⟨g, cap, hv, hgb, hg⟩ := hown.form (by omega)
              injection hv with hv1 hv2 hv3
              subst hv1 hv3
              have hat := own_atC hown HX.out
              obtain ⟨g0, g1, g2, g3, g4, g5⟩ := hat
              simp only at g0 g1 g2 g3 g4 g5
              have hfr := hown.frozenAt
              haveI : InW g (gw _ d3 os3) := ⟨hg⟩
              have n0 : ¬ w.heap.size = g := by simp at hgb; omega
              have n3 : ¬ w.heap.size + 1 + 1 + 1 = g := by simp at hgb; omega
              clear hown
              cases xg
              · by_cases hcl : xc < cid
                · have HQ := hide (show q = 2 by rw [hq]; simp [hcl])
                  clear hq
                  go_wp2
                  rw [HH.out, HQ.out]
                  refine bodyPost_ret (v := .tuple #[.agg #[.slice (some ⟨g, 0, none⟩) m.length RC], .int .i64 2]) (by simp [results, Tryz.results204, go_sem, n3]) rfl ?_
                  obtain ⟨r1, r2⟩ := own_setC6 HO3.out (y := ⟨xn, xi, max xc cid, max xr rnd, now, false⟩) HX.out
                  refine ⟨.slice (some ⟨g, 0, none⟩) m.length RC, rfl, ?_, ?_⟩
                  · rw [OwnC, List.length_set]
                    exact own_base ((ownsRow_setCell_below r1 (a := ⟨w.heap.size + 1 + 1 + 1, 0, none⟩) (by simp) _).alloc _) (by (try simp [size_gwe]) <;> omega)
                  · exact bel_al ((Below.grown (bel_gw (bel_al (bel_al (bel_al (bel_al (Below.refl _ _) _) _) _) _) _ _) r2 (by (try simp [size_gwe]) <;> omega) (fun q hq => by injection hq with hq; subst hq; simp at hgb; omega)).setCell (by simp; omega) _) _
                · by_cases hce : cid = xc
                  · have hce' : (cid == xc) = true := by simp [hce]
                    cases hnb : nobB set sn si
                    · have HQ := hide (show q = 2 by rw [hq]; simp [hce, hnb])
                      clear hq hce
                      go_wp2_with fail
                      with_reducible refine (nobody_s SA sc set sn si _ ((Reads.below hcc (by repeat (first | exact Below.refl _ _ | assumption | refine bel_al ?_ _ | refine bel_gw ?_ _ _ | refine bel_drew ?_ | refine bel_drewN ?_ _))).more (by simp)) hsn).mono ?_
                      rintro e w4 ⟨rfl, hb⟩
                      obtain ⟨⟨d4, os4⟩, rfl⟩ := gw_of_below hb
                      rw [hnb]
                      clear hb hnb
                      go_wp2
                      rw [HH.out, HQ.out]
                      refine bodyPost_ret (v := .tuple #[.agg #[.slice (some ⟨g, 0, none⟩) m.length RC], .int .i64 2]) (by simp [results, Tryz.results204, go_sem, n3]) rfl ?_
                      obtain ⟨r1, r2⟩ := own_setC6 HO3.out (y := ⟨xn, xi, max xc cid, max xr rnd, now, false⟩) HX.out
                      refine ⟨.slice (some ⟨g, 0, none⟩) m.length RC, rfl, ?_, ?_⟩
                      · rw [OwnC, List.length_set]
                        exact own_base (own_below ((ownsRow_setCell_below r1 (a := ⟨w.heap.size + 1 + 1 + 1, 0, none⟩) (by simp) _).alloc _) (below_gw _ _ _) (Nat.le_refl _)) (by (try simp [size_gwe]) <;> omega)
                      · exact bel_gw (bel_al ((Below.grown (bel_gw (bel_al (bel_al (bel_al (bel_al (Below.refl _ _) _) _) _) _) _ _) r2 (by (try simp [size_gwe]) <;> omega) (fun q hq => by injection hq with hq; subst hq; simp at hgb; omega)).setCell (by simp; omega) _) _) _ _
                    · have HQ := hide (show q = 1 by rw [hq]; simp [hce, hnb])
                      clear hq hce
                      go_wp2_with fail
                      with_reducible refine (nobody_s SA sc set sn si _ ((Reads.below hcc (by repeat (first | exact Below.refl _ _ | assumption | refine bel_al ?_ _ | refine bel_gw ?_ _ _ | refine bel_drew ?_ | refine bel_drewN ?_ _))).more (by simp)) hsn).mono ?_
                      rintro e w4 ⟨rfl, hb⟩
                      obtain ⟨⟨d4, os4⟩, rfl⟩ := gw_of_below hb
                      rw [hnb]
                      clear hb hnb
                      go_wp2
                      rw [HH.out, HQ.out]
                      refine bodyPost_ret (v := .tuple #[.agg #[.slice (some ⟨g, 0, none⟩) m.length RC], .int .i64 1]) (by simp [results, Tryz.results204, go_sem, n3]) rfl ?_
                      obtain ⟨r1, r2⟩ := own_setC6 HO3.out (y := ⟨xn, xi, max xc cid, max xr rnd, now, false⟩) HX.out
                      refine ⟨.slice (some ⟨g, 0, none⟩) m.length RC, rfl, ?_, ?_⟩
                      · rw [OwnC, List.length_set]
                        exact own_base (own_below ((ownsRow_setCell_below r1 (a := ⟨w.heap.size + 1 + 1 + 1, 0, none⟩) (by simp) _).alloc _) (below_gw _ _ _) (Nat.le_refl _)) (by (try simp [size_gwe]) <;> omega)
                      · exact bel_gw (bel_al ((Below.grown (bel_gw (bel_al (bel_al (bel_al (bel_al (Below.refl _ _) _) _) _) _) _ _) r2 (by (try simp [size_gwe]) <;> omega) (fun q hq => by injection hq with hq; subst hq; simp at hgb; omega)).setCell (by simp; omega) _) _) _ _
                  · have HQ := hide (show q = 1 by rw [hq]; simp [hce, hcl])
                    have hce' : (cid == xc) = false := by simpa using hce
                    clear hq hce
                    go_wp2
                    rw [HH.out, HQ.out]
                    refine bodyPost_ret (v := .tuple #[.agg #[.slice (some ⟨g, 0, none⟩) m.length RC], .int .i64 1]) (by simp [results, Tryz.results204, go_sem, n3]) rfl ?_
                    obtain ⟨r1, r2⟩ := own_setC6 HO3.out (y := ⟨xn, xi, max xc cid, max xr rnd, now, false⟩) HX.out
                    refine ⟨.slice (some ⟨g, 0, none⟩) m.length RC, rfl, ?_, ?_⟩
                    · rw [OwnC, List.length_set]
                      exact own_base ((ownsRow_setCell_below r1 (a := ⟨w.heap.size + 1 + 1 + 1, 0, none⟩) (by simp) _).alloc _) (by (try simp [size_gwe]) <;> omega)
                    · exact bel_al ((Below.grown (bel_gw (bel_al (bel_al (bel_al (bel_al (Below.refl _ _) _) _) _) _) _ _) r2 (by (try simp [size_gwe]) <;> omega) (fun q hq => by injection hq with hq; subst hq; simp at hgb; omega)).setCell (by simp; omega) _) _
              · have HQ := hide (show q = 3 by rw [hq]; simp)
                clear hq
                go_wp2
                rw [HH.out, HQ.out]
                refine bodyPost_ret (v := .tuple #[.agg #[.slice (some ⟨g, 0, none⟩) m.length RC], .int .i64 3]) (by simp [results, Tryz.results204, go_sem, n3]) rfl ?_
                obtain ⟨r1, r2⟩ := own_setC6 HO3.out (y := ⟨xn, xi, max xc cid, max xr rnd, now, false⟩) HX.out
                refine ⟨.slice (some ⟨g, 0, none⟩) m.length RC, rfl, ?_, ?_⟩
                · rw [OwnC, List.length_set]
                  exact own_base ((ownsRow_setCell_below r1 (a := ⟨w.heap.size + 1 + 1 + 1, 0, none⟩) (by simp) _).alloc _) (by (try simp [size_gwe]) <;> omega)
                · exact bel_al ((Below.grown (bel_gw (bel_al (bel_al (bel_al (bel_al (Below.refl _ _) _) _) _) _) _ _) r2 (by (try simp [size_gwe]) <;> omega) (fun q hq => by injection hq with hq; subst hq; simp at hgb; omega)).setCell (by simp; omega) _) _
            · have e1 : eqP xn xi xn i = false := by simp [eqP, heq]
              have HH := hide (show hearR m now sn si 1 xn i rnd cid set = (insR ⟨xn, i, cid, rnd, now, false⟩ (lessR m xn), 3) by simp [hearR, HOK.out, HF.out, hlt, heq])
              go_wp2_with fail
              have hc : Cll (((gw ((((w.alloc (bxR RA m.length RC)).alloc (bx sn si)).alloc (bxN7 1 xn i rnd cid (.slice SA set.length sc) v6 v7 v8 v9 v10)).alloc (bxR none 0 0)) d3 os3).alloc (bxK ⟨xn, xi, xc, xr, xh, xg⟩ k)).alloc (bxC ⟨xn, i, cid, rnd, now, false⟩)) RA m := (Cll.step (show Cll (gw ((((w.alloc (bxR RA m.length RC)).alloc (bx sn si)).alloc (bxN7 1 xn i rnd cid (.slice SA set.length sc) v6 v7 v8 v9 v10)).alloc (bxR none 0 0)) d3 os3) RA m from Reads.of_own HO3.out) (by repeat (first | exact Below.refl _ _ | assumption | refine bel_al ?_ _ | refine bel_gw ?_ _ _ | refine bel_drew ?_ | refine bel_drewN ?_ _)))
              have hcw : (((gw ((((w.alloc (bxR RA m.length RC)).alloc (bx sn si)).alloc (bxN7 1 xn i rnd cid (.slice SA set.length sc) v6 v7 v8 v9 v10)).alloc (bxR none 0 0)) d3 os3).alloc (bxK ⟨xn, xi, xc, xr, xh, xg⟩ k)).alloc (bxC ⟨xn, i, cid, rnd, now, false⟩)).cell? ⟨w.heap.size + 1 + 1, 1, none⟩ = some (.int .i64 xn) := by simp [go_sem]
              have hzw : w.heap.size + 1 + 1 < (((gw ((((w.alloc (bxR RA m.length RC)).alloc (bx sn si)).alloc (bxN7 1 xn i rnd cid (.slice SA set.length sc) v6 v7 v8 v9 v10)).alloc (bxR none 0 0)) d3 os3).alloc (bxK ⟨xn, xi, xc, xr, xh, xg⟩ k)).alloc (bxC ⟨xn, i, cid, rnd, now, false⟩)).heap.size := InW.lt
              with_reducible refine (who_hear RA RC m (w.heap.size + 1 + 1) (fun x => !(x.n == xn)) _ hc (by omega) (fun x W hW => hear1_b x (w.heap.size + 1 + 1) xn W ((hW.cell (p := ⟨w.heap.size + 1 + 1, 1, none⟩) hzw).trans hcw) (Nat.lt_of_lt_of_le hzw hW.size))).mono ?_
              rw [show m.filter (fun x => !(x.n == xn)) = lessR m xn from rfl]
              have hll : (lessR m xn).length ≤ m.length := List.length_filter_le _ _
              have HLR := hide (less_rising HR.out xn)
              have HLN := hide (less_ne m xn)
              generalize lessR m xn = L at HH hll HLR HLN ⊢
              rintro e w4 ⟨A4, c4, rfl, hown4, hb⟩
              have hc4 : Cll w4 A4 L := Reads.of_own hown4
              obtain ⟨⟨d4, os4⟩, rfl⟩ := gw_of_below hb
              clear hb hown4 hc hcw hzw HO3
              go_wp2_with fail
              with_reducible refine (joined_two A4 c4 L _ 1 [⟨xn, i, cid, rnd, now, false⟩] _ _ (by simp [go_sem]) (by simp [go_sem]; rfl) InW.lt (hc4.step (by repeat (first | exact Below.refl _ _ | assumption | refine bel_al ?_ _ | refine bel_gw ?_ _ _ | refine bel_drew ?_ | refine bel_drewN ?_ _))) (Cll.step (Cll_one _ _) (by repeat (first | exact Below.refl _ _ | assumption | refine bel_al ?_ _ | refine bel_gw ?_ _ _ | refine bel_drew ?_ | refine bel_drewN ?_ _))) (by simp; omega)).mono ?_
              rintro e w5 ⟨l', v, hp, hs, rfl, hown5, hb⟩
              have hl' := insR_eq HLR.out HLN.out hp hs
              obtain ⟨A5, c5, rfl, _, _⟩ := own_slice hown5
              obtain ⟨⟨d5, os5⟩, rfl⟩ := gw_of_below hb
              rw [hl'] at hown5 ⊢
              clear hb hp hs hl' hc4
              generalize insR ⟨xn, i, cid, rnd, now, false⟩ L = LL at HH hown5 ⊢
              go_wp2
              rw [HH.out]
              refine bodyPost_ret (v := .tuple #[.agg #[.slice A5 LL.length c5], .int .i64 3]) (by simp [results, Tryz.results204, go_sem]) rfl ?_
              exact ⟨_, rfl, own_base (own_swap hown5 (by (try simp [size_gwe]) <;> omega) (by (try simp [size_gwe]) <;> omega)) (by (try simp [size_gwe]) <;> omega), (by repeat (first | exact Below.refl _ _ | assumption | refine bel_al ?_ _ | refine bel_gw ?_ _ _ | refine bel_drew ?_ | refine bel_drewN ?_ _))⟩
        | no hf =>
          have HF := hide (found_none hf)
          clear hf
          unfold kV
          by_cases h6 : 6 ≤ m.length
          · have HH := hide (show hearR m now sn si 1 n i rnd cid set = (m, 0) by simp [hearR, HOK.out, HF.out, h6])
            have h6' : (6 : Int) ≤ (m.length : Int) := by omega
            go_wp2
            rw [HH.out]
            refine bodyPost_ret (v := .tuple #[.agg #[.slice RA m.length RC], .int .i64 0]) (by simp [results, Tryz.results204, go_sem]) rfl ?_
            exact ⟨_, rfl, own_base ((own_swap HO3.out (by simp) (by simp)).alloc _) (by simp; omega), (by repeat (first | exact Below.refl _ _ | assumption | refine bel_al ?_ _ | refine bel_gw ?_ _ _ | refine bel_drew ?_ | refine bel_drewN ?_ _))⟩
          · have HH := hide (show hearR m now sn si 1 n i rnd cid set = (insR ⟨n, i, cid, rnd, now, false⟩ (lessR m n), 3) by simp [hearR, HOK.out, HF.out, h6])
            have h6' : ¬ (6 : Int) ≤ (m.length : Int) := by omega
            go_wp2_with fail
            have hc : Cll (((gw ((((w.alloc (bxR RA m.length RC)).alloc (bx sn si)).alloc (bxN7 1 n i rnd cid (.slice SA set.length sc) v6 v7 v8 v9 v10)).alloc (bxR none 0 0)) d3 os3).alloc (bxK noC 0)).alloc (bxC ⟨n, i, cid, rnd, now, false⟩)) RA m := (Cll.step (show Cll (gw ((((w.alloc (bxR RA m.length RC)).alloc (bx sn si)).alloc (bxN7 1 n i rnd cid (.slice SA set.length sc) v6 v7 v8 v9 v10)).alloc (bxR none 0 0)) d3 os3) RA m from Reads.of_own HO3.out) (by repeat (first | exact Below.refl _ _ | assumption | refine bel_al ?_ _ | refine bel_gw ?_ _ _ | refine bel_drew ?_ | refine bel_drewN ?_ _)))
            have hcw : (((gw ((((w.alloc (bxR RA m.length RC)).alloc (bx sn si)).alloc (bxN7 1 n i rnd cid (.slice SA set.length sc) v6 v7 v8 v9 v10)).alloc (bxR none 0 0)) d3 os3).alloc (bxK noC 0)).alloc (bxC ⟨n, i, cid, rnd, now, false⟩)).cell? ⟨w.heap.size + 1 + 1, 1, none⟩ = some (.int .i64 n) := by simp [go_sem]
            have hzw : w.heap.size + 1 + 1 < (((gw ((((w.alloc (bxR RA m.length RC)).alloc (bx sn si)).alloc (bxN7 1 n i rnd cid (.slice SA set.length sc) v6 v7 v8 v9 v10)).alloc (bxR none 0 0)) d3 os3).alloc (bxK noC 0)).alloc (bxC ⟨n, i, cid, rnd, now, false⟩)).heap.size := InW.lt
            with_reducible refine (who_hear RA RC m (w.heap.size + 1 + 1) (fun x => !(x.n == n)) _ hc (by omega) (fun x W hW => hear1_b x (w.heap.size + 1 + 1) n W ((hW.cell (p := ⟨w.heap.size + 1 + 1, 1, none⟩) hzw).trans hcw) (Nat.lt_of_lt_of_le hzw hW.size))).mono ?_
            rw [show m.filter (fun x => !(x.n == n)) = lessR m n from rfl]
            have hll : (lessR m n).length ≤ m.length := List.length_filter_le _ _
            have HLR := hide (less_rising HR.out n)
            have HLN := hide (less_ne m n)
            generalize lessR m n = L at HH hll HLR HLN ⊢
            rintro e w4 ⟨A4, c4, rfl, hown4, hb⟩
            have hc4 : Cll w4 A4 L := Reads.of_own hown4
            obtain ⟨⟨d4, os4⟩, rfl⟩ := gw_of_below hb
            clear hb hown4 hc hcw hzw HO3
            go_wp2_with fail
            with_reducible refine (joined_two A4 c4 L _ 1 [⟨n, i, cid, rnd, now, false⟩] _ _ (by simp [go_sem]) (by simp [go_sem]; rfl) InW.lt (hc4.step (by repeat (first | exact Below.refl _ _ | assumption | refine bel_al ?_ _ | refine bel_gw ?_ _ _ | refine bel_drew ?_ | refine bel_drewN ?_ _))) (Cll.step (Cll_one _ _) (by repeat (first | exact Below.refl _ _ | assumption | refine bel_al ?_ _ | refine bel_gw ?_ _ _ | refine bel_drew ?_ | refine bel_drewN ?_ _))) (by simp; omega)).mono ?_
            rintro e w5 ⟨l', v, hp, hs, rfl, hown5, hb⟩
            have hl' := insR_eq HLR.out HLN.out hp hs
            obtain ⟨A5, c5, rfl, _, _⟩ := own_slice hown5
            obtain ⟨⟨d5, os5⟩, rfl⟩ := gw_of_below hb
            rw [hl'] at hown5 ⊢
            clear hb hp hs hl' hc4
            generalize insR ⟨n, i, cid, rnd, now, false⟩ L = LL at HH hown5 ⊢
            go_wp2
            rw [HH.out]
            refine bodyPost_ret (v := .tuple #[.agg #[.slice A5 LL.length c5], .int .i64 3]) (by simp [results, Tryz.results204, go_sem]) rfl ?_
            exact ⟨_, rfl, own_base (own_swap hown5 (by (try simp [size_gwe]) <;> omega) (by (try simp [size_gwe]) <;> omega)) (by (try simp [size_gwe]) <;> omega), (by repeat (first | exact Below.refl _ _ | assumption | refine bel_al ?_ _ | refine bel_gw ?_ _ _ | refine bel_drew ?_ | refine bel_drewN ?_ _))⟩
    · cases hmay : mayB n i
      · have HH := hide (show hearR m now sn si 3 n i rnd cid set = (m, 0) by simp [hearR, okN, hmay])
        go_wp2_with (go_at_call 112; refine (may_any _ _ _).mono ?_; rintro e w' ⟨rfl, rfl⟩)
        rw [HH.out]
        refine bodyPost_ret (v := .tuple #[.agg #[.slice RA m.length RC], .int .i64 0]) (by simp [results, Tryz.results204, go_sem]) rfl ?_
        exact ⟨_, rfl, own_base ((own_swap HO.out (by simp) (by simp)).alloc _) (by simp; omega), (by repeat (first | exact Below.refl _ _ | assumption | refine bel_al ?_ _ | refine bel_gw ?_ _ _ | refine bel_drew ?_ | refine bel_drewN ?_ _))⟩
      · have HOK := hide (show okN 3 n i = true by simp [okN, hmay])
        go_wp2_with fail
        with_reducible refine (may_b n i _).mono ?_
        rintro e w2 ⟨rfl, hb⟩
        rw [hmay]
        have HO2 := hide (own_below (own_swap (W' := ((((w.alloc (bxR RA m.length RC)).alloc (bx sn si)).alloc (bxN7 3 n i rnd cid (.slice SA set.length sc) v6 v7 v8 v9 v10)).alloc (bxR none 0 0))) (d' := d1) HO.out (by simp) (by simp)) hb (Nat.le_refl _))
        obtain ⟨⟨d2, os2⟩, rfl⟩ := gw_more hb
        clear hb HO
        have hc : Cll (gw ((((w.alloc (bxR RA m.length RC)).alloc (bx sn si)).alloc (bxN7 3 n i rnd cid (.slice SA set.length sc) v6 v7 v8 v9 v10)).alloc (bxR none 0 0)) d2 os2) RA m := Reads.of_own HO2.out
        go_wp2_with fail
        with_reducible refine (look_s RA RC m n _ hc (by omega)).mono ?_
        rintro e w3 ⟨f, hf, rfl, hb⟩
        have HO3 := hide (own_below HO2.out hb (Nat.le_refl _))
        obtain ⟨⟨d3, os3⟩, rfl⟩ := gw_more hb
        clear hb HO2 hc
        cases hf with
        | yes k x h hx hf =>
          have HF := hide (found_find h hx hf)
          have HX := hide h
          have hkl : k < m.length := (List.getElem?_eq_some_iff.1 h).1
          have HSM := hide (fun z => set_map (z := z) HR.out h hx)
          obtain ⟨xn, xi, xc, xr, xh, xg⟩ := x
          simp only at hx
          subst hx
          clear h hf
          unfold kV
          by_cases hlt : i < xi
          · have HH := hide (show hearR m now sn si 3 xn i rnd cid set = (m, 0) by simp [hearR, HOK.out, HF.out, hlt])
            go_wp2
            rw [HH.out]
            refine bodyPost_ret (v := .tuple #[.agg #[.slice RA m.length RC], .int .i64 0]) (by simp [results, Tryz.results204, go_sem]) rfl ?_
            exact ⟨_, rfl, own_base ((own_swap HO3.out (by simp) (by simp)).alloc _) (by simp; omega), (by repeat (first | exact Below.refl _ _ | assumption | refine bel_al ?_ _ | refine bel_gw ?_ _ _ | refine bel_drew ?_ | refine bel_drewN ?_ _))⟩
          · by_cases heq : xi = i
            · subst heq
              have e1 : eqP xn xi xn xi = true := by simp [eqP]
              clear hlt
              have hcc : Reads (gw ((((w.alloc (bxR RA m.length RC)).alloc (bx sn si)).alloc (bxN7 3 xn xi rnd cid (.slice SA set.length sc) v6 v7 v8 v9 v10)).alloc (bxR none 0 0)) d3 os3) (gw ((((w.alloc (bxR RA m.length RC)).alloc (bx sn si)).alloc (bxN7 3 xn xi rnd cid (.slice SA set.length sc) v6 v7 v8 v9 v10)).alloc (bxR none 0 0)) d3 os3).heap.size 2 SA set.length (pcs set) := (Reads.below hS (by repeat (first | exact Below.refl _ _ | assumption | refine bel_al ?_ _ | refine bel_gw ?_ _ _ | refine bel_drew ?_ | refine bel_drewN ?_ _))).more (by simp [size_gwe]; omega)
              obtain ⟨q, hq⟩ : ∃ q : Int, q = (if xg then 3 else if decide (xc < cid) || (decide (cid = xc) && !nobB set sn si) then 2 else 1) := ⟨_, rfl⟩
              have HH := hide (show hearR m now sn si 3 xn xi rnd cid set = (m.set k ⟨xn, xi, max xc cid, max xr rnd, now, false⟩, q) by
                rw [← HSM.out, hq]; simp [hearR, HOK.out, HF.out])
              have hown := HO3.out
              obtain ⟨g, cap, hv, hgb, hg⟩ := hown.form (by omega)
              injection hv with hv1 hv2 hv3
              subst hv1 hv3
              have hat := own_atC hown HX.out
              obtain ⟨g0, g1, g2, g3, g4, g5⟩ := hat
              simp only at g0 g1 g2 g3 g4 g5
              have hfr := hown.frozenAt
              haveI : InW g (gw _ d3 os3) := ⟨hg⟩
              have n0 : ¬ w.heap.size = g := by simp at hgb; omega
              have n3 : ¬ w.heap.size + 1 + 1 + 1 = g := by simp at hgb; omega
              clear hown
              cases xg
              · by_cases hcl : xc < cid
                · have HQ := hide (show q = 2 by rw [hq]; simp [hcl])
                  clear hq
                  go_wp2
                  rw [HH.out, HQ.out]
                  refine bodyPost_ret (v := .tuple #[.agg #[.slice (some ⟨g, 0, none⟩) m.length RC], .int .i64 2]) (by simp [results, Tryz.results204, go_sem, n3]) rfl ?_
                  obtain ⟨r1, r2⟩ := own_setC6 HO3.out (y := ⟨xn, xi, max xc cid, max xr rnd, now, false⟩) HX.out
                  refine ⟨.slice (some ⟨g, 0, none⟩) m.length RC, rfl, ?_, ?_⟩
                  · rw [OwnC, List.length_set]
                    exact own_base ((ownsRow_setCell_below r1 (a := ⟨w.heap.size + 1 + 1 + 1, 0, none⟩) (by simp) _).alloc _) (by (try simp [size_gwe]) <;> omega)
                  · exact bel_al ((Below.grown (bel_gw (bel_al (bel_al (bel_al (bel_al (Below.refl _ _) _) _) _) _) _ _) r2 (by (try simp [size_gwe]) <;> omega) (fun q hq => by injection hq with hq; subst hq; simp at hgb; omega)).setCell (by simp; omega) _) _
                · by_cases hce : cid = xc
                  · have hce' : (cid == xc) = true := by simp [hce]
                    cases hnb : nobB set sn si
                    · have HQ := hide (show q = 2 by rw [hq]; simp [hce, hnb])
                      clear hq hce
                      go_wp2_with fail
                      with_reducible refine (nobody_s SA sc set sn si _ ((Reads.below hcc (by repeat (first | exact Below.refl _ _ | assumption | refine bel_al ?_ _ | refine bel_gw ?_ _ _ | refine bel_drew ?_ | refine bel_drewN ?_ _))).more (by simp)) hsn).mono ?_
                      rintro e w4 ⟨rfl, hb⟩
                      obtain ⟨⟨d4, os4⟩, rfl⟩ := gw_of_below hb
                      rw [hnb]
                      clear hb hnb
                      go_wp2
                      rw [HH.out, HQ.out]
                      refine bodyPost_ret (v := .tuple #[.agg #[.slice (some ⟨g, 0, none⟩) m.length RC], .int .i64 2]) (by simp [results, Tryz.results204, go_sem, n3]) rfl ?_
                      obtain ⟨r1, r2⟩ := own_setC6 HO3.out (y := ⟨xn, xi, max xc cid, max xr rnd, now, false⟩) HX.out
                      refine ⟨.slice (some ⟨g, 0, none⟩) m.length RC, rfl, ?_, ?_⟩
                      · rw [OwnC, List.length_set]
                        exact own_base (own_below ((ownsRow_setCell_below r1 (a := ⟨w.heap.size + 1 + 1 + 1, 0, none⟩) (by simp) _).alloc _) (below_gw _ _ _) (Nat.le_refl _)) (by (try simp [size_gwe]) <;> omega)
                      · exact bel_gw (bel_al ((Below.grown (bel_gw (bel_al (bel_al (bel_al (bel_al (Below.refl _ _) _) _) _) _) _ _) r2 (by (try simp [size_gwe]) <;> omega) (fun q hq => by injection hq with hq; subst hq; simp at hgb; omega)).setCell (by simp; omega) _) _) _ _
                    · have HQ := hide (show q = 1 by rw [hq]; simp [hce, hnb])
                      clear hq hce
                      go_wp2_with fail
                      with_reducible refine (nobody_s SA sc set sn si _ ((Reads.below hcc (by repeat (first | exact Below.refl _ _ | assumption | refine bel_al ?_ _ | refine bel_gw ?_ _ _ | refine bel_drew ?_ | refine bel_drewN ?_ _))).more (by simp)) hsn).mono ?_
                      rintro e w4 ⟨rfl, hb⟩
                      obtain ⟨⟨d4, os4⟩, rfl⟩ := gw_of_below hb
                      rw [hnb]
                      clear hb hnb
                      go_wp2
                      rw [HH.out, HQ.out]
                      refine bodyPost_ret (v := .tuple #[.agg #[.slice (some ⟨g, 0, none⟩) m.length RC], .int .i64 1]) (by simp [results, Tryz.results204, go_sem, n3]) rfl ?_
                      obtain ⟨r1, r2⟩ := own_setC6 HO3.out (y := ⟨xn, xi, max xc cid, max xr rnd, now, false⟩) HX.out
                      refine ⟨.slice (some ⟨g, 0, none⟩) m.length RC, rfl, ?_, ?_⟩
                      · rw [OwnC, List.length_set]
                        exact own_base (own_below ((ownsRow_setCell_below r1 (a := ⟨w.heap.size + 1 + 1 + 1, 0, none⟩) (by simp) _).alloc _) (below_gw _ _ _) (Nat.le_refl _)) (by (try simp [size_gwe]) <;> omega)
                      · exact bel_gw (bel_al ((Below.grown (bel_gw (bel_al (bel_al (bel_al (bel_al (Below.refl _ _) _) _) _) _) _ _) r2 (by (try simp [size_gwe]) <;> omega) (fun q hq => by injection hq with hq; subst hq; simp at hgb; omega)).setCell (by simp; omega) _) _) _ _
                  · have HQ := hide (show q = 1 by rw [hq]; simp [hce, hcl])
                    have hce' : (cid == xc) = false := by simpa using hce
                    clear hq hce
                    go_wp2
                    rw [HH.out, HQ.out]
                    refine bodyPost_ret (v := .tuple #[.agg #[.slice (some ⟨g, 0, none⟩) m.length RC], .int .i64 1]) (by simp [results, Tryz.results204, go_sem, n3]) rfl ?_
                    obtain ⟨r1, r2⟩ := own_setC6 HO3.out (y := ⟨xn, xi, max xc cid, max xr rnd, now, false⟩) HX.out
                    refine ⟨.slice (some ⟨g, 0, none⟩) m.length RC, rfl, ?_, ?_⟩
                    · rw [OwnC, List.length_set]
                      exact own_base ((ownsRow_setCell_below r1 (a := ⟨w.heap.size + 1 + 1 + 1, 0, none⟩) (by simp) _).alloc _) (by (try simp [size_gwe]) <;> omega)
                    · exact bel_al ((Below.grown (bel_gw (bel_al (bel_al (bel_al (bel_al (Below.refl _ _) _) _) _) _) _ _) r2 (by (try simp [size_gwe]) <;> omega) (fun q hq => by injection hq with hq; subst hq; simp at hgb; omega)).setCell (by simp; omega) _) _
              · have HQ := hide (show q = 3 by rw [hq]; simp)
                clear hq
                go_wp2
                rw [HH.out, HQ.out]
                refine bodyPost_ret (v := .tuple #[.agg #[.slice (some ⟨g, 0, none⟩) m.length RC], .int .i64 3]) (by simp [results, Tryz.results204, go_sem, n3]) rfl ?_
                obtain ⟨r1, r2⟩ := own_setC6 HO3.out (y := ⟨xn, xi, max xc cid, max xr rnd, now, false⟩) HX.out
                refine ⟨.slice (some ⟨g, 0, none⟩) m.length RC, rfl, ?_, ?_⟩
                · rw [OwnC, List.length_set]
                  exact own_base ((ownsRow_setCell_below r1 (a := ⟨w.heap.size + 1 + 1 + 1, 0, none⟩) (by simp) _).alloc _) (by (try simp [size_gwe]) <;> omega)
                · exact bel_al ((Below.grown (bel_gw (bel_al (bel_al (bel_al (bel_al (Below.refl _ _) _) _) _) _) _ _) r2 (by (try simp [size_gwe]) <;> omega) (fun q hq => by injection hq with hq; subst hq; simp at hgb; omega)).setCell (by simp; omega) _) _
            · have e1 : eqP xn xi xn i = false := by simp [eqP, heq]
              have HH := hide (show hearR m now sn si 3 xn i rnd cid set = (insR ⟨xn, i, cid, rnd, now, false⟩ (lessR m xn), 3) by simp [hearR, HOK.out, HF.out, hlt, heq])
              go_wp2_with fail
              have hc : Cll (((gw ((((w.alloc (bxR RA m.length RC)).alloc (bx sn si)).alloc (bxN7 3 xn i rnd cid (.slice SA set.length sc) v6 v7 v8 v9 v10)).alloc (bxR none 0 0)) d3 os3).alloc (bxK ⟨xn, xi, xc, xr, xh, xg⟩ k)).alloc (bxC ⟨xn, i, cid, rnd, now, false⟩)) RA m := (Cll.step (show Cll (gw ((((w.alloc (bxR RA m.length RC)).alloc (bx sn si)).alloc (bxN7 3 xn i rnd cid (.slice SA set.length sc) v6 v7 v8 v9 v10)).alloc (bxR none 0 0)) d3 os3) RA m from Reads.of_own HO3.out) (by repeat (first | exact Below.refl _ _ | assumption | refine bel_al ?_ _ | refine bel_gw ?_ _ _ | refine bel_drew ?_ | refine bel_drewN ?_ _)))
              have hcw : (((gw ((((w.alloc (bxR RA m.length RC)).alloc (bx sn si)).alloc (bxN7 3 xn i rnd cid (.slice SA set.length sc) v6 v7 v8 v9 v10)).alloc (bxR none 0 0)) d3 os3).alloc (bxK ⟨xn, xi, xc, xr, xh, xg⟩ k)).alloc (bxC ⟨xn, i, cid, rnd, now, false⟩)).cell? ⟨w.heap.size + 1 + 1, 1, none⟩ = some (.int .i64 xn) := by simp [go_sem]
              have hzw : w.heap.size + 1 + 1 < (((gw ((((w.alloc (bxR RA m.length RC)).alloc (bx sn si)).alloc (bxN7 3 xn i rnd cid (.slice SA set.length sc) v6 v7 v8 v9 v10)).alloc (bxR none 0 0)) d3 os3).alloc (bxK ⟨xn, xi, xc, xr, xh, xg⟩ k)).alloc (bxC ⟨xn, i, cid, rnd, now, false⟩)).heap.size := InW.lt
              with_reducible refine (who_hear RA RC m (w.heap.size + 1 + 1) (fun x => !(x.n == xn)) _ hc (by omega) (fun x W hW => hear1_b x (w.heap.size + 1 + 1) xn W ((hW.cell (p := ⟨w.heap.size + 1 + 1, 1, none⟩) hzw).trans hcw) (Nat.lt_of_lt_of_le hzw hW.size))).mono ?_
              rw [show m.filter (fun x => !(x.n == xn)) = lessR m xn from rfl]
              have hll : (lessR m xn).length ≤ m.length := List.length_filter_le _ _
              have HLR := hide (less_rising HR.out xn)
              have HLN := hide (less_ne m xn)
              generalize lessR m xn = L at HH hll HLR HLN ⊢
              rintro e w4 ⟨A4, c4, rfl, hown4, hb⟩
              have hc4 : Cll w4 A4 L := Reads.of_own hown4
              obtain ⟨⟨d4, os4⟩, rfl⟩ := gw_of_below hb
              clear hb hown4 hc hcw hzw HO3
              go_wp2_with fail
              with_reducible refine (joined_two A4 c4 L _ 1 [⟨xn, i, cid, rnd, now, false⟩] _ _ (by simp [go_sem]) (by simp [go_sem]; rfl) InW.lt (hc4.step (by repeat (first | exact Below.refl _ _ | assumption | refine bel_al ?_ _ | refine bel_gw ?_ _ _ | refine bel_drew ?_ | refine bel_drewN ?_ _))) (Cll.step (Cll_one _ _) (by repeat (first | exact Below.refl _ _ | assumption | refine bel_al ?_ _ | refine bel_gw ?_ _ _ | refine bel_drew ?_ | refine bel_drewN ?_ _))) (by simp; omega)).mono ?_
              rintro e w5 ⟨l', v, hp, hs, rfl, hown5, hb⟩
              have hl' := insR_eq HLR.out HLN.out hp hs
              obtain ⟨A5, c5, rfl, _, _⟩ := own_slice hown5
              obtain ⟨⟨d5, os5⟩, rfl⟩ := gw_of_below hb
              rw [hl'] at hown5 ⊢
              clear hb hp hs hl' hc4
              generalize insR ⟨xn, i, cid, rnd, now, false⟩ L = LL at HH hown5 ⊢
              go_wp2
              rw [HH.out]
              refine bodyPost_ret (v := .tuple #[.agg #[.slice A5 LL.length c5], .int .i64 3]) (by simp [results, Tryz.results204, go_sem]) rfl ?_
              exact ⟨_, rfl, own_base (own_swap hown5 (by (try simp [size_gwe]) <;> omega) (by (try simp [size_gwe]) <;> omega)) (by (try simp [size_gwe]) <;> omega), (by repeat (first | exact Below.refl _ _ | assumption | refine bel_al ?_ _ | refine bel_gw ?_ _ _ | refine bel_drew ?_ | refine bel_drewN ?_ _))⟩
        | no hf =>
          have HF := hide (found_none hf)
          clear hf
          unfold kV
          by_cases h6 : 6 ≤ m.length
          · have HH := hide (show hearR m now sn si 3 n i rnd cid set = (m, 0) by simp [hearR, HOK.out, HF.out, h6])
            have h6' : (6 : Int) ≤ (m.length : Int) := by omega
            go_wp2
            rw [HH.out]
            refine bodyPost_ret (v := .tuple #[.agg #[.slice RA m.length RC], .int .i64 0]) (by simp [results, Tryz.results204, go_sem]) rfl ?_
            exact ⟨_, rfl, own_base ((own_swap HO3.out (by simp) (by simp)).alloc _) (by simp; omega), (by repeat (first | exact Below.refl _ _ | assumption | refine bel_al ?_ _ | refine bel_gw ?_ _ _ | refine bel_drew ?_ | refine bel_drewN ?_ _))⟩
          · have HH := hide (show hearR m now sn si 3 n i rnd cid set = (insR ⟨n, i, cid, rnd, now, false⟩ (lessR m n), 3) by simp [hearR, HOK.out, HF.out, h6])
            have h6' : ¬ (6 : Int) ≤ (m.length : Int) := by omega
            go_wp2_with fail
            have hc : Cll (((gw ((((w.alloc (bxR RA m.length RC)).alloc (bx sn si)).alloc (bxN7 3 n i rnd cid (.slice SA set.length sc) v6 v7 v8 v9 v10)).alloc (bxR none 0 0)) d3 os3).alloc (bxK noC 0)).alloc (bxC ⟨n, i, cid, rnd, now, false⟩)) RA m := (Cll.step (show Cll (gw ((((w.alloc (bxR RA m.length RC)).alloc (bx sn si)).alloc (bxN7 3 n i rnd cid (.slice SA set.length sc) v6 v7 v8 v9 v10)).alloc (bxR none 0 0)) d3 os3) RA m from Reads.of_own HO3.out) (by repeat (first | exact Below.refl _ _ | assumption | refine bel_al ?_ _ | refine bel_gw ?_ _ _ | refine bel_drew ?_ | refine bel_drewN ?_ _)))
            have hcw : (((gw ((((w.alloc (bxR RA m.length RC)).alloc (bx sn si)).alloc (bxN7 3 n i rnd cid (.slice SA set.length sc) v6 v7 v8 v9 v10)).alloc (bxR none 0 0)) d3 os3).alloc (bxK noC 0)).alloc (bxC ⟨n, i, cid, rnd, now, false⟩)).cell? ⟨w.heap.size + 1 + 1, 1, none⟩ = some (.int .i64 n) := by simp [go_sem]
            have hzw : w.heap.size + 1 + 1 < (((gw ((((w.alloc (bxR RA m.length RC)).alloc (bx sn si)).alloc (bxN7 3 n i rnd cid (.slice SA set.length sc) v6 v7 v8 v9 v10)).alloc (bxR none 0 0)) d3 os3).alloc (bxK noC 0)).alloc (bxC ⟨n, i, cid, rnd, now, false⟩)).heap.size := InW.lt
            with_reducible refine (who_hear RA RC m (w.heap.size + 1 + 1) (fun x => !(x.n == n)) _ hc (by omega) (fun x W hW => hear1_b x (w.heap.size + 1 + 1) n W ((hW.cell (p := ⟨w.heap.size + 1 + 1, 1, none⟩) hzw).trans hcw) (Nat.lt_of_lt_of_le hzw hW.size))).mono ?_
            rw [show m.filter (fun x => !(x.n == n)) = lessR m n from rfl]
            have hll : (lessR m n).length ≤ m.length := List.length_filter_le _ _
            have HLR := hide (less_rising HR.out n)
            have HLN := hide (less_ne m n)
            generalize lessR m n = L at HH hll HLR HLN ⊢
            rintro e w4 ⟨A4, c4, rfl, hown4, hb⟩
            have hc4 : Cll w4 A4 L := Reads.of_own hown4
            obtain ⟨⟨d4, os4⟩, rfl⟩ := gw_of_below hb
            clear hb hown4 hc hcw hzw HO3
            go_wp2_with fail
            with_reducible refine (joined_two A4 c4 L _ 1 [⟨n, i, cid, rnd, now, false⟩] _ _ (by simp [go_sem]) (by simp [go_sem]; rfl) InW.lt (hc4.step (by repeat (first | exact Below.refl _ _ | assumption | refine bel_al ?_ _ | refine bel_gw ?_ _ _ | refine bel_drew ?_ | refine bel_drewN ?_ _))) (Cll.step (Cll_one _ _) (by repeat (first | exact Below.refl _ _ | assumption | refine bel_al ?_ _ | refine bel_gw ?_ _ _ | refine bel_drew ?_ | refine bel_drewN ?_ _))) (by simp; omega)).mono ?_
            rintro e w5 ⟨l', v, hp, hs, rfl, hown5, hb⟩
            have hl' := insR_eq HLR.out HLN.out hp hs
            obtain ⟨A5, c5, rfl, _, _⟩ := own_slice hown5
            obtain ⟨⟨d5, os5⟩, rfl⟩ := gw_of_below hb
            rw [hl'] at hown5 ⊢
            clear hb hp hs hl' hc4
            generalize insR ⟨n, i, cid, rnd, now, false⟩ L = LL at HH hown5 ⊢
            go_wp2
            rw [HH.out]
            refine bodyPost_ret (v := .tuple #[.agg #[.slice A5 LL.length c5], .int .i64 3]) (by simp [results, Tryz.results204, go_sem]) rfl ?_
            exact ⟨_, rfl, own_base (own_swap hown5 (by (try simp [size_gwe]) <;> omega) (by (try simp [size_gwe]) <;> omega)) (by (try simp [size_gwe]) <;> omega), (by repeat (first | exact Below.refl _ _ | assumption | refine bel_al ?_ _ | refine bel_gw ?_ _ _ | refine bel_drew ?_ | refine bel_drewN ?_ _))⟩
  · have HH := hide (show hearR m now sn si kind n i rnd cid set = (m, 0) by simp [hearR, okN]; intro h; exact absurd h hk)
    have b1 : (kind != 1) = true := by rw [bne_iff_ne]; omega
    have b3 : (kind != 3) = true := by rw [bne_iff_ne]; omega
    clear hk
    go_wp2
    rw [HH.out]
    refine bodyPost_ret (v := .tuple #[.agg #[.slice RA m.length RC], .int .i64 0]) (by simp [results, Tryz.results204, go_sem]) rfl ?_
    exact ⟨_, rfl, own_base (own_swap HO.out (by simp) (by simp)) (by simp; omega), (by repeat (first | exact Below.refl _ _ | assumption | refine bel_al ?_ _ | refine bel_gw ?_ _ _ | refine bel_drew ?_ | refine bel_drewN ?_ _))⟩
end Go.Proofs.YtfddiklhjkjipaaGreat

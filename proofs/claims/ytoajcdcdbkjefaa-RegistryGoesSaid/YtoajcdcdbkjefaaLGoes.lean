/-
  RegistryGoes answers true.
-/
import Derived.Test.YtoajcdcdbkjefaaPlain17b
namespace Go.Proofs.Ytoajcdcdbkjefaa
set_option linter.unusedSimpArgs false
set_option linter.unusedVariables false
set_option linter.unusedSectionVars false
open Go.RowKit Go.Sort Go.Lib

@[go_sem] theorem size_gw_sum (w : World) (d : Nat) (os : Array Obj) : (gw w d os).heap.size = w.heap.size + os.size := size_gwe w d os
instance (priority := high) Sz.gwS (w : World) (n d : Nat) (os : Array Obj) [h : Sz w n] : Sz (gw w d os) (n + os.size) := ⟨by rw [size_gwe, h.eq]⟩
@[go_sem] theorem setCell_drewN (w : World) (q : Nat) (a : Addr) (v : Value) : (w.drewN q).setCell a v = (w.setCell a v).drewN q := rfl
@[go_sem] theorem alloc_drewN (w : World) (q : Nat) (o : Obj) : (w.drewN q).alloc o = (w.alloc o).drewN q := rfl
/-- something that happens to a registry -/
structure Ac where
  what : Int
  kind : Int
  n : Int
  i : Int
  rnd : Int
  cid : Int
  SA : Option Addr
  sc : Nat
  set : List (Int × Int)
  vr : Int
  vn : Int
  vi : Int
  MA : Option Addr
  ml : Nat
  mc : Nat
  UA : Option Addr
  ul : Nat
  uc : Nat
  now : Int
  deriving Inhabited
def ac (x : Ac) : List Value := [.int .i64 x.what, .int .i64 x.kind, .int .i64 x.n, .int .u64 x.i, .int .u64 x.rnd, .int .u64 x.cid, .slice x.SA x.set.length x.sc, .int .u64 x.vr, .int .i64 x.vn, .int .u64 x.vi, .slice x.MA x.ml x.mc, .slice x.UA x.ul x.uc, .int .u64 x.now]
def acs (l : List Ac) : List Value := l.flatMap ac
theorem ac_len (x : Ac) : (ac x).length = 13 := rfl
theorem acs_len (l : List Ac) : (acs l).length = l.length * 13 := flat_length ac_len l
structure AtA (w : World) (b o : Nat) (x : Ac) : Prop where
  h0 : w.cell? ⟨b, o, none⟩ = some (.int .i64 x.what)
  h1 : w.cell? ⟨b, o + 1, none⟩ = some (.int .i64 x.kind)
  h2 : w.cell? ⟨b, o + 2, none⟩ = some (.int .i64 x.n)
  h3 : w.cell? ⟨b, o + 3, none⟩ = some (.int .u64 x.i)
  h4 : w.cell? ⟨b, o + 4, none⟩ = some (.int .u64 x.rnd)
  h5 : w.cell? ⟨b, o + 5, none⟩ = some (.int .u64 x.cid)
  h6 : w.cell? ⟨b, o + 6, none⟩ = some (.slice x.SA x.set.length x.sc)
  h7 : w.cell? ⟨b, o + 7, none⟩ = some (.int .u64 x.vr)
  h8 : w.cell? ⟨b, o + 8, none⟩ = some (.int .i64 x.vn)
  h9 : w.cell? ⟨b, o + 9, none⟩ = some (.int .u64 x.vi)
  h10 : w.cell? ⟨b, o + 10, none⟩ = some (.slice x.MA x.ml x.mc)
  h11 : w.cell? ⟨b, o + 11, none⟩ = some (.slice x.UA x.ul x.uc)
  h12 : w.cell? ⟨b, o + 12, none⟩ = some (.int .u64 x.now)
theorem Reads.atA {w : World} {B : Nat} {A : Option Addr} {n k : Nat} {l : List Ac} (h : Reads w B 13 A n (acs l)) (hk : k < n) :
    ∃ b off x, A = some ⟨b, off, none⟩ ∧ b < B ∧ l[k]? = some x ∧ AtA w b (off + k * 13) x := by
  obtain ⟨b, off, rfl, hb, hc⟩ := h.2 (by omega)
  have hl : k < l.length := by have := h.1; rw [acs_len] at this; omega
  have hp : l[k]? = some l[k] := List.getElem?_eq_getElem hl
  have key : ∀ j (hj : j < 13), w.cell? ⟨b, off + k * 13 + j, none⟩ = (ac l[k])[j]? := by
    intro j hj
    have hx : (ac l[k])[j]? = some ((ac l[k])[j]'(by rw [ac_len]; exact hj)) := List.getElem?_eq_getElem _
    rw [Nat.add_assoc, hx]
    exact hc (k * 13 + j) _ (by rw [acs, flat_get ac_len l k j _ hp hj, hx])
  exact ⟨b, off, l[k], rfl, hb, hp, key 0 (by omega), key 1 (by omega), key 2 (by omega), key 3 (by omega), key 4 (by omega), key 5 (by omega), key 6 (by omega), key 7 (by omega), key 8 (by omega), key 9 (by omega), key 10 (by omega), key 11 (by omega), key 12 (by omega)⟩
def wfA (w : World) (x : Ac) : Prop := Reads w w.heap.size 2 x.SA x.set.length (pcs x.set) ∧ x.set.length ≤ 9223372036854775807 ∧ 0 ≤ x.cid ∧ -9223372036854775808 ≤ x.what ∧ x.what ≤ 9223372036854775807

theorem tm4 (x : Int) : -3 ≤ x.tmod 4 ∧ x.tmod 4 ≤ 3 := by
  rcases Int.le_total 0 x with h | h
  · rw [Int.tmod_eq_emod_of_nonneg h]; omega
  · rw [show x = -(-x) by omega, Int.neg_tmod, Int.tmod_eq_emod_of_nonneg (show 0 ≤ -x by omega)]; omega
def litU (f : Nat → Int) : Array Value := #[.int .u64 (f 0), .int .u64 (f 1), .int .u64 (f 2), .int .u64 (f 3), .int .u64 (f 4), .int .u64 (f 5), .int .u64 (f 6), .int .u64 (f 7), .int .u64 (f 8), .int .u64 (f 9), .int .u64 (f 10)]
def litB (f : Nat → Bool) : Array Value := #[.bool (f 0), .bool (f 1), .bool (f 2), .bool (f 3), .bool (f 4), .bool (f 5), .bool (f 6), .bool (f 7), .bool (f 8), .bool (f 9), .bool (f 10)]
@[go_sem] theorem litU_get (f : Nat → Int) (k : Nat) (h : k < 11) : (litU f)[k]? = some (.int .u64 (f k)) := by
  match k, h with
  | 0, _ | 1, _ | 2, _ | 3, _ | 4, _ | 5, _ | 6, _ | 7, _ | 8, _ | 9, _ | 10, _ => rfl
@[go_sem] theorem litB_get (f : Nat → Bool) (k : Nat) (h : k < 11) : (litB f)[k]? = some (.bool (f k)) := by
  match k, h with
  | 0, _ | 1, _ | 2, _ | 3, _ | 4, _ | 5, _ | 6, _ | 7, _ | 8, _ | 9, _ | 10, _ => rfl
theorem litU_size (f : Nat → Int) : (litU f).size = 11 := rfl
theorem litB_size (f : Nat → Bool) : (litB f).size = 11 := rfl
theorem arU (f : Nat → Int) : ArU (litU f) f := ⟨rfl, fun i hi => litU_get f i hi⟩
theorem arB (f : Nat → Bool) : ArB (litB f) f := ⟨rfl, fun i hi => litB_get f i hi⟩
theorem litU_ext {a : Array Value} {f : Nat → Int} (h : ArU a f) : a = litU f := by
  apply Array.ext_getElem?
  intro i
  rcases Nat.lt_or_ge i 11 with hi | hi
  · rw [h.2 i hi, litU_get f i hi]
  · rw [Array.getElem?_eq_none (by rw [h.1]; exact hi), Array.getElem?_eq_none (by rw [litU_size]; exact hi)]
theorem litB_ext {a : Array Value} {f : Nat → Bool} (h : ArB a f) : a = litB f := by
  apply Array.ext_getElem?
  intro i
  rcases Nat.lt_or_ge i 11 with hi | hi
  · rw [h.2 i hi, litB_get f i hi]
  · rw [Array.getElem?_eq_none (by rw [h.1]; exact hi), Array.getElem?_eq_none (by rw [litB_size]; exact hi)]
@[go_sem] theorem litU_set (f : Nat → Int) (k : Nat) (v : Int) : (litU f).setIfInBounds k (.int .u64 v) = litU (upd f k v) := litU_ext ((arU f).set k v)
@[go_sem] theorem litB_set (f : Nat → Bool) (k : Nat) (v : Bool) : (litB f).setIfInBounds k (.bool v) = litB (upd f k v) := litB_ext ((arB f).set k v)
theorem Cll.rev {w w' : World} {A : Option Addr} {l : List Cl} (hb : Below w.heap.size w w') (h : Cll w A l) : Cll w' A l := h.step hb
theorem own_rev {w w' : World} {base : Nat} {e : TypeId} {k n : Nat} {v : Value} {xs : List Value} (hb : Below w.heap.size w w') (h : w.ownsRow base e k v n xs) : w'.ownsRow base e k v n xs := own_below h hb (Nat.le_refl _)
theorem kn_start : Kn [] (fun _ => 0) (fun _ => 0) (fun _ => false) := ⟨by decide, by simp, by simp⟩
theorem zn_start : Zn [] (fun _ => 0) := fun _ _ _ _ => rfl

set_option maxRecDepth 100000 in
set_option maxHeartbeats 16000000 in
theorem registryGoes_true (A : Option Addr) (c : Nat) (l : List Ac) (w : World) (h : Reads w w.heap.size 13 A l.length (acs l)) (hn : l.length ≤ 9223372036854775807) (hw : ∀ x ∈ l, wfA w x) :
    Calls Try.prog 5 #[.slice A l.length c] w (RetB w true) := by
  have HW := hide hw
  clear hw
  by_cases h2 : 200 < l.length
  · have h2' : (200 : Int) < (l.length : Int) := by omega
    go_enter Try.func5, Try.ntmps5
    go_wp2_with fail
    with_reducible refine (awake_t _).mono ?_
    rintro e w2 ⟨rfl, hb⟩
    go_wp2
    go_ret
    exact ⟨rfl, hb⟩
  · have h2' : ¬ (200 : Int) < (l.length : Int) := by omega
    go_enter Try.func5, Try.ntmps5
    go_wp2
    go_loopw [8] (fun i wr => ∃ (k : Nat) (m : List Cl) (nw cd : Nat → Int) (th : Nat → Bool) (RA : Option Addr) (RC d : Nat) (os : Array Obj), k ≤ l.length ∧ i = .int .i64 k ∧ Kn m nw cd th ∧ Zn m nw ∧ OwnC wr (w.heap.size + 5) (.slice RA m.length RC) m ∧ wr = gw (((((w.alloc (bxR RA m.length RC)).alloc (bx 1 1)).alloc (.cells (litU nw) 53)).alloc (.cells (litU cd) 53)).alloc (.cells (litB th) 54)) d os) (fun i _ => l.length - (intOf i).toNat)
    case atStart => exact ⟨0, [], _, _, _, none, 0, w.drawn, #[], Nat.zero_le _, rfl, kn_start, zn_start, World.ownsRow_nil _ _ _ _, by simp [gw]; rfl⟩
    case round =>
      obtain ⟨k, m, nw, cd, th, RA, RC, d, os, hk, rfl, hKn, hZn, hc, rfl⟩ := hrel
      have hl6 := ((mayR_iff m).1 hKn.may).2.2
      by_cases hlt : k < l.length
      · obtain ⟨b, off, x, rfl, hb, hp, hx⟩ := Reads.atA h hlt
        obtain ⟨wx1, wx2, wx3, wx4, wx5⟩ := HW.out x (List.mem_of_getElem? hp)
        obtain ⟨xw, xk, xn, xi, xr, xc, SA, sc, set, vr, vn, vi, MA, ml, mc, UA, ul, uc, xo⟩ := x
        obtain ⟨g0, g1, g2, g3, g4, g5, g6, g7, g8, g9, g10, g11, g12⟩ := hx
        simp only at g0 g1 g2 g3 g4 g5 g6 g7 g8 g9 g10 g11 g12 wx1 wx2 wx3 wx4 wx5
        haveI : InW b w := ⟨hb⟩
        have i0 : (0 : Int) ≤ (k : Int) := by omega
        have i1 : (k : Int) < (l.length : Int) := by omega
        obtain ⟨m1, m2⟩ := tm4 xw
        have HKN := hide hKn
        have HZN := hide hZn
        have HR := hide (show Cll (gw (((((w.alloc (bxR RA m.length RC)).alloc (bx 1 1)).alloc (.cells (litU nw) 53)).alloc (.cells (litU cd) 53)).alloc (.cells (litB th) 54)) d os) RA m from Reads.of_own hc)
        clear hp hKn hZn hc
        go_wp2_with fail
        · have T := hide (fun W (hW : Cll W RA m) => leave_s RA RC m xn xi W hW (by omega))
          rw [takenR_of HKN.out.may] at T
          have HK1 := hide (HKN.out.gone (st := fun x => eqP x.n x.i xn xi) (a := xn) (fun x hx => by unfold eqP at hx; simp at hx; exact hx.1))
          have HZ1 := hide (HZN.out.gone (st := fun x => eqP x.n x.i xn xi))
          have HE := hide (fun (he : decide (0 < (m.filter (goes (fun x => eqP x.n x.i xn xi))).length) = true) => show 1 ≤ xn ∧ xn ≤ 10 from by
            simp only [decide_eq_true_eq] at he
            obtain ⟨z, hz⟩ := List.exists_mem_of_length_pos he
            obtain ⟨hz1, hz2⟩ := List.mem_filter.1 hz
            have := HKN.out.node hz1
            unfold goes eqP at hz2; simp at hz2
            rw [hz2.2.1] at this; exact this)
          generalize decide (0 < (m.filter (goes (fun x => eqP x.n x.i xn xi))).length) = ok at T HK1 HE
          generalize goneR (fun x => eqP x.n x.i xn xi) m = m' at T HK1 HZ1
          with_reducible refine (T.out _ (HR.out.step (by repeat (first | exact Below.refl _ _ | assumption | refine bel_al ?_ _ | refine bel_gw ?_ _ _ | refine bel_drew ?_ | refine bel_drewN ?_ _)))).mono ?_
          rintro e w1 ⟨v, rfl, hown, hb⟩
          obtain ⟨RA', RC', rfl, _, _⟩ := own_slice hown
          obtain ⟨⟨d1, os1⟩, rfl⟩ := gw_of_below hb
          have HRO := hide (fun W' d' hs => show OwnC (gw W' d' os1) (w.heap.size + 5) (.slice RA' m'.length RC') m' from own_base (own_swap hown hs (Nat.le_refl _)) (by simp [size_gwe]; omega))
          have HR' := hide (fun W' d' hs => show Cll (gw W' d' os1) RA' m' from Reads.of_own (own_swap hown hs (Nat.le_refl _)))
          clear hb hown
          cases ok
          · simp only [Bool.false_eq_true, if_false] at HK1
            clear HE
            go_wp2_with fail
            have hm6 := ((mayR_iff m').1 HK1.out.may).2.2
            have TM := hide (fun W (hW : Cll W RA' m') => show Calls Try.prog 9 #[.agg #[.slice RA' m'.length RC']] W (RetB W true) from by have := regMay_b RA' RC' m' W hW (by omega); rw [HK1.out.may] at this; exact this)
            with_reducible refine (TM.out _ (Cll.rev (by repeat (first | exact Below.refl _ _ | assumption | refine bel_al ?_ _ | refine bel_gw ?_ _ _ | refine bel_drew ?_ | refine bel_drewN ?_ _)) (HR'.out _ _ (by simp [size_gwe])))).mono ?_
            rintro e w2 ⟨rfl, hb⟩
            obtain ⟨⟨d2, os2⟩, rfl⟩ := gw_of_below hb
            clear hb
            go_wp2_with fail
            refine Calls.mono (known_t RA' RC' m' (litU nw) (litU cd) (litB th) nw cd th _ (Cll.rev (by repeat (first | exact Below.refl _ _ | assumption | refine bel_al ?_ _ | refine bel_gw ?_ _ _ | refine bel_drew ?_ | refine bel_drewN ?_ _)) (HR'.out _ _ (by simp [size_gwe]))) (arU _) (arU _) (arB _) HK1.out) ?_
            rintro e w3 ⟨rfl, hb⟩
            obtain ⟨⟨d3, os3⟩, rfl⟩ := gw_of_below hb
            clear hb
            go_wp2
            go_loopw [17] (fun i wr => ∃ (j : Nat) (cd2 : Nat → Int), j ≤ m'.length ∧ i = .int .i64 j ∧ Kn m' (nw) cd2 (th) ∧ OwnC wr (w.heap.size + 5) (.slice RA' m'.length RC') m' ∧ ∃ p : GW, wr = gw (((((w.alloc (bxR RA' m'.length RC')).alloc (bx 1 1)).alloc (.cells (litU nw) 53)).alloc (.cells (litU cd2) 53)).alloc (.cells (litB th) 54)) p.d p.os) (fun i _ => m'.length - (intOf i).toNat)
            case atStart => exact ⟨0, _, Nat.zero_le _, rfl, HK1.out, own_rev (by repeat (first | exact Below.refl _ _ | assumption | refine bel_al ?_ _ | refine bel_gw ?_ _ _ | refine bel_drew ?_ | refine bel_drewN ?_ _)) (HRO.out _ _ (by simp [size_gwe])), gw_of_below (by repeat (first | exact Below.refl _ _ | assumption | refine bel_al ?_ _ | refine bel_gw ?_ _ _ | refine bel_drew ?_ | refine bel_drewN ?_ _))⟩
            case round =>
              obtain ⟨j, cd2, hj, rfl, hk2, hown2, ⟨⟨d9, os9⟩, rfl⟩⟩ := hrel
              have HK2 := hide hk2
              have HO2 := hide hown2
              clear hk2 hown2
              by_cases hlj : j < m'.length
              · have hp : m'[j]? = some m'[j] := List.getElem?_eq_getElem hlj
                have hxm := List.mem_of_getElem? hp
                obtain ⟨y1, y2⟩ := HK2.out.node hxm
                have HK3 := hide (HK2.out.cids hxm)
                obtain ⟨g, cap, hv, hgb, hg⟩ := HO2.out.form (by omega)
                injection hv with hv1 hv2 hv3
                subst hv1 hv3
                have hat := own_atC HO2.out hp
                generalize m'[j] = y at hp hxm y1 y2 HK3 hat
                obtain ⟨yn, yi, yc, yr, yh, yg⟩ := y
                obtain ⟨r0, r1, r2, r3, r4, r5⟩ := hat
                simp only at r0 r1 r2 r3 r4 r5 y1 y2 HK3
                have y3 : (0 : Int) ≤ yn := by omega
                have y4 : yn < 11 := by omega
                have y5 : yn.toNat < 11 := by omega
                have j0 : (0 : Int) ≤ (j : Int) := by omega
                have j1 : (j : Int) < (m'.length : Int) := by omega
                clear hp hxm
                go_wp2
                go_region
                go_wp2
                go_roundw
                case rel => exact ⟨j + 1, _, by omega, by go_num, HK3.out, own_swap HO2.out (by simp) (by simp), ⟨⟨_, _⟩, rfl⟩⟩
                case measure => simp [intOf]; omega
              · go_wp2
                go_roundw
                case rel => exact ⟨k + 1, m', _, cd2, _, RA', RC', _, _, by omega, by go_num, HK2.out, HZ1.out, HO2.out, rfl⟩
                case measure => simp [intOf]; omega
          · simp only [if_true] at HK1
            obtain ⟨n1, n2⟩ := HE.out rfl
            have n3 : (0 : Int) ≤ xn := by omega
            have n4 : xn < 11 := by omega
            have n5 : xn.toNat < 11 := by omega
            clear HE
            go_wp2_with fail
            have hm6 := ((mayR_iff m').1 HK1.out.may).2.2
            have TM := hide (fun W (hW : Cll W RA' m') => show Calls Try.prog 9 #[.agg #[.slice RA' m'.length RC']] W (RetB W true) from by have := regMay_b RA' RC' m' W hW (by omega); rw [HK1.out.may] at this; exact this)
            with_reducible refine (TM.out _ (Cll.rev (by repeat (first | exact Below.refl _ _ | assumption | refine bel_al ?_ _ | refine bel_gw ?_ _ _ | refine bel_drew ?_ | refine bel_drewN ?_ _)) (HR'.out _ _ (by simp [size_gwe])))).mono ?_
            rintro e w2 ⟨rfl, hb⟩
            obtain ⟨⟨d2, os2⟩, rfl⟩ := gw_of_below hb
            clear hb
            go_wp2_with fail
            refine Calls.mono (known_t RA' RC' m' (litU nw) (litU cd) (litB (upd th xn.toNat false)) nw cd (upd th xn.toNat false) _ (Cll.rev (by repeat (first | exact Below.refl _ _ | assumption | refine bel_al ?_ _ | refine bel_gw ?_ _ _ | refine bel_drew ?_ | refine bel_drewN ?_ _)) (HR'.out _ _ (by simp [size_gwe]))) (arU _) (arU _) (arB _) HK1.out) ?_
            rintro e w3 ⟨rfl, hb⟩
            obtain ⟨⟨d3, os3⟩, rfl⟩ := gw_of_below hb
            clear hb
            go_wp2
            go_loopw [17] (fun i wr => ∃ (j : Nat) (cd2 : Nat → Int), j ≤ m'.length ∧ i = .int .i64 j ∧ Kn m' (nw) cd2 ((upd th xn.toNat false)) ∧ OwnC wr (w.heap.size + 5) (.slice RA' m'.length RC') m' ∧ ∃ p : GW, wr = gw (((((w.alloc (bxR RA' m'.length RC')).alloc (bx 1 1)).alloc (.cells (litU nw) 53)).alloc (.cells (litU cd2) 53)).alloc (.cells (litB (upd th xn.toNat false)) 54)) p.d p.os) (fun i _ => m'.length - (intOf i).toNat)
            case atStart => exact ⟨0, _, Nat.zero_le _, rfl, HK1.out, own_rev (by repeat (first | exact Below.refl _ _ | assumption | refine bel_al ?_ _ | refine bel_gw ?_ _ _ | refine bel_drew ?_ | refine bel_drewN ?_ _)) (HRO.out _ _ (by simp [size_gwe])), gw_of_below (by repeat (first | exact Below.refl _ _ | assumption | refine bel_al ?_ _ | refine bel_gw ?_ _ _ | refine bel_drew ?_ | refine bel_drewN ?_ _))⟩
            case round =>
              obtain ⟨j, cd2, hj, rfl, hk2, hown2, ⟨⟨d9, os9⟩, rfl⟩⟩ := hrel
              have HK2 := hide hk2
              have HO2 := hide hown2
              clear hk2 hown2
              by_cases hlj : j < m'.length
              · have hp : m'[j]? = some m'[j] := List.getElem?_eq_getElem hlj
                have hxm := List.mem_of_getElem? hp
                obtain ⟨y1, y2⟩ := HK2.out.node hxm
                have HK3 := hide (HK2.out.cids hxm)
                obtain ⟨g, cap, hv, hgb, hg⟩ := HO2.out.form (by omega)
                injection hv with hv1 hv2 hv3
                subst hv1 hv3
                have hat := own_atC HO2.out hp
                generalize m'[j] = y at hp hxm y1 y2 HK3 hat
                obtain ⟨yn, yi, yc, yr, yh, yg⟩ := y
                obtain ⟨r0, r1, r2, r3, r4, r5⟩ := hat
                simp only at r0 r1 r2 r3 r4 r5 y1 y2 HK3
                have y3 : (0 : Int) ≤ yn := by omega
                have y4 : yn < 11 := by omega
                have y5 : yn.toNat < 11 := by omega
                have j0 : (0 : Int) ≤ (j : Int) := by omega
                have j1 : (j : Int) < (m'.length : Int) := by omega
                clear hp hxm
                go_wp2
                go_region
                go_wp2
                go_roundw
                case rel => exact ⟨j + 1, _, by omega, by go_num, HK3.out, own_swap HO2.out (by simp) (by simp), ⟨⟨_, _⟩, rfl⟩⟩
                case measure => simp [intOf]; omega
              · go_wp2
                go_roundw
                case rel => exact ⟨k + 1, m', _, cd2, _, RA', RC', _, _, by omega, by go_num, HK2.out, HZ1.out, HO2.out, rfl⟩
                case measure => simp [intOf]; omega
        · have T := hide (fun W (hW : Cll W RA m) => drop_s RA RC m xn W hW (by omega))
          rw [takenR_of HKN.out.may] at T
          have HK1 := hide (HKN.out.gone (st := fun x => x.n == xn) (a := xn) (fun x hx => by simpa using hx))
          have HZ1 := hide (HZN.out.gone (st := fun x => x.n == xn))
          have HE := hide (fun (he : decide (0 < (m.filter (goes (fun x => x.n == xn))).length) = true) => show 1 ≤ xn ∧ xn ≤ 10 from by
            simp only [decide_eq_true_eq] at he
            obtain ⟨z, hz⟩ := List.exists_mem_of_length_pos he
            obtain ⟨hz1, hz2⟩ := List.mem_filter.1 hz
            have := HKN.out.node hz1
            unfold goes at hz2; simp at hz2
            rw [hz2.2] at this; exact this)
          generalize decide (0 < (m.filter (goes (fun x => x.n == xn))).length) = ok at T HK1 HE
          generalize goneR (fun x => x.n == xn) m = m' at T HK1 HZ1
          with_reducible refine (T.out _ (HR.out.step (by repeat (first | exact Below.refl _ _ | assumption | refine bel_al ?_ _ | refine bel_gw ?_ _ _ | refine bel_drew ?_ | refine bel_drewN ?_ _)))).mono ?_
          rintro e w1 ⟨v, rfl, hown, hb⟩
          obtain ⟨RA', RC', rfl, _, _⟩ := own_slice hown
          obtain ⟨⟨d1, os1⟩, rfl⟩ := gw_of_below hb
          have HRO := hide (fun W' d' hs => show OwnC (gw W' d' os1) (w.heap.size + 5) (.slice RA' m'.length RC') m' from own_base (own_swap hown hs (Nat.le_refl _)) (by simp [size_gwe]; omega))
          have HR' := hide (fun W' d' hs => show Cll (gw W' d' os1) RA' m' from Reads.of_own (own_swap hown hs (Nat.le_refl _)))
          clear hb hown
          cases ok
          · simp only [Bool.false_eq_true, if_false] at HK1
            clear HE
            go_wp2_with fail
            have hm6 := ((mayR_iff m').1 HK1.out.may).2.2
            have TM := hide (fun W (hW : Cll W RA' m') => show Calls Try.prog 9 #[.agg #[.slice RA' m'.length RC']] W (RetB W true) from by have := regMay_b RA' RC' m' W hW (by omega); rw [HK1.out.may] at this; exact this)
            with_reducible refine (TM.out _ (Cll.rev (by repeat (first | exact Below.refl _ _ | assumption | refine bel_al ?_ _ | refine bel_gw ?_ _ _ | refine bel_drew ?_ | refine bel_drewN ?_ _)) (HR'.out _ _ (by simp [size_gwe])))).mono ?_
            rintro e w2 ⟨rfl, hb⟩
            obtain ⟨⟨d2, os2⟩, rfl⟩ := gw_of_below hb
            clear hb
            go_wp2_with fail
            refine Calls.mono (known_t RA' RC' m' (litU nw) (litU cd) (litB th) nw cd th _ (Cll.rev (by repeat (first | exact Below.refl _ _ | assumption | refine bel_al ?_ _ | refine bel_gw ?_ _ _ | refine bel_drew ?_ | refine bel_drewN ?_ _)) (HR'.out _ _ (by simp [size_gwe]))) (arU _) (arU _) (arB _) HK1.out) ?_
            rintro e w3 ⟨rfl, hb⟩
            obtain ⟨⟨d3, os3⟩, rfl⟩ := gw_of_below hb
            clear hb
            go_wp2
            go_loopw [17] (fun i wr => ∃ (j : Nat) (cd2 : Nat → Int), j ≤ m'.length ∧ i = .int .i64 j ∧ Kn m' (nw) cd2 (th) ∧ OwnC wr (w.heap.size + 5) (.slice RA' m'.length RC') m' ∧ ∃ p : GW, wr = gw (((((w.alloc (bxR RA' m'.length RC')).alloc (bx 1 1)).alloc (.cells (litU nw) 53)).alloc (.cells (litU cd2) 53)).alloc (.cells (litB th) 54)) p.d p.os) (fun i _ => m'.length - (intOf i).toNat)
            case atStart => exact ⟨0, _, Nat.zero_le _, rfl, HK1.out, own_rev (by repeat (first | exact Below.refl _ _ | assumption | refine bel_al ?_ _ | refine bel_gw ?_ _ _ | refine bel_drew ?_ | refine bel_drewN ?_ _)) (HRO.out _ _ (by simp [size_gwe])), gw_of_below (by repeat (first | exact Below.refl _ _ | assumption | refine bel_al ?_ _ | refine bel_gw ?_ _ _ | refine bel_drew ?_ | refine bel_drewN ?_ _))⟩
            case round =>
              obtain ⟨j, cd2, hj, rfl, hk2, hown2, ⟨⟨d9, os9⟩, rfl⟩⟩ := hrel
              have HK2 := hide hk2
              have HO2 := hide hown2
              clear hk2 hown2
              by_cases hlj : j < m'.length
              · have hp : m'[j]? = some m'[j] := List.getElem?_eq_getElem hlj
                have hxm := List.mem_of_getElem? hp
                obtain ⟨y1, y2⟩ := HK2.out.node hxm
                have HK3 := hide (HK2.out.cids hxm)
                obtain ⟨g, cap, hv, hgb, hg⟩ := HO2.out.form (by omega)
                injection hv with hv1 hv2 hv3
                subst hv1 hv3
                have hat := own_atC HO2.out hp
                generalize m'[j] = y at hp hxm y1 y2 HK3 hat
                obtain ⟨yn, yi, yc, yr, yh, yg⟩ := y
                obtain ⟨r0, r1, r2, r3, r4, r5⟩ := hat
                simp only at r0 r1 r2 r3 r4 r5 y1 y2 HK3
                have y3 : (0 : Int) ≤ yn := by omega
                have y4 : yn < 11 := by omega
                have y5 : yn.toNat < 11 := by omega
                have j0 : (0 : Int) ≤ (j : Int) := by omega
                have j1 : (j : Int) < (m'.length : Int) := by omega
                clear hp hxm
                go_wp2
                go_region
                go_wp2
                go_roundw
                case rel => exact ⟨j + 1, _, by omega, by go_num, HK3.out, own_swap HO2.out (by simp) (by simp), ⟨⟨_, _⟩, rfl⟩⟩
                case measure => simp [intOf]; omega
              · go_wp2
                go_roundw
                case rel => exact ⟨k + 1, m', _, cd2, _, RA', RC', _, _, by omega, by go_num, HK2.out, HZ1.out, HO2.out, rfl⟩
                case measure => simp [intOf]; omega
          · simp only [if_true] at HK1
            obtain ⟨n1, n2⟩ := HE.out rfl
            have n3 : (0 : Int) ≤ xn := by omega
            have n4 : xn < 11 := by omega
            have n5 : xn.toNat < 11 := by omega
            clear HE
            go_wp2_with fail
            have hm6 := ((mayR_iff m').1 HK1.out.may).2.2
            have TM := hide (fun W (hW : Cll W RA' m') => show Calls Try.prog 9 #[.agg #[.slice RA' m'.length RC']] W (RetB W true) from by have := regMay_b RA' RC' m' W hW (by omega); rw [HK1.out.may] at this; exact this)
            with_reducible refine (TM.out _ (Cll.rev (by repeat (first | exact Below.refl _ _ | assumption | refine bel_al ?_ _ | refine bel_gw ?_ _ _ | refine bel_drew ?_ | refine bel_drewN ?_ _)) (HR'.out _ _ (by simp [size_gwe])))).mono ?_
            rintro e w2 ⟨rfl, hb⟩
            obtain ⟨⟨d2, os2⟩, rfl⟩ := gw_of_below hb
            clear hb
            go_wp2_with fail
            refine Calls.mono (known_t RA' RC' m' (litU nw) (litU cd) (litB (upd th xn.toNat false)) nw cd (upd th xn.toNat false) _ (Cll.rev (by repeat (first | exact Below.refl _ _ | assumption | refine bel_al ?_ _ | refine bel_gw ?_ _ _ | refine bel_drew ?_ | refine bel_drewN ?_ _)) (HR'.out _ _ (by simp [size_gwe]))) (arU _) (arU _) (arB _) HK1.out) ?_
            rintro e w3 ⟨rfl, hb⟩
            obtain ⟨⟨d3, os3⟩, rfl⟩ := gw_of_below hb
            clear hb
            go_wp2
            go_loopw [17] (fun i wr => ∃ (j : Nat) (cd2 : Nat → Int), j ≤ m'.length ∧ i = .int .i64 j ∧ Kn m' (nw) cd2 ((upd th xn.toNat false)) ∧ OwnC wr (w.heap.size + 5) (.slice RA' m'.length RC') m' ∧ ∃ p : GW, wr = gw (((((w.alloc (bxR RA' m'.length RC')).alloc (bx 1 1)).alloc (.cells (litU nw) 53)).alloc (.cells (litU cd2) 53)).alloc (.cells (litB (upd th xn.toNat false)) 54)) p.d p.os) (fun i _ => m'.length - (intOf i).toNat)
            case atStart => exact ⟨0, _, Nat.zero_le _, rfl, HK1.out, own_rev (by repeat (first | exact Below.refl _ _ | assumption | refine bel_al ?_ _ | refine bel_gw ?_ _ _ | refine bel_drew ?_ | refine bel_drewN ?_ _)) (HRO.out _ _ (by simp [size_gwe])), gw_of_below (by repeat (first | exact Below.refl _ _ | assumption | refine bel_al ?_ _ | refine bel_gw ?_ _ _ | refine bel_drew ?_ | refine bel_drewN ?_ _))⟩
            case round =>
              obtain ⟨j, cd2, hj, rfl, hk2, hown2, ⟨⟨d9, os9⟩, rfl⟩⟩ := hrel
              have HK2 := hide hk2
              have HO2 := hide hown2
              clear hk2 hown2
              by_cases hlj : j < m'.length
              · have hp : m'[j]? = some m'[j] := List.getElem?_eq_getElem hlj
                have hxm := List.mem_of_getElem? hp
                obtain ⟨y1, y2⟩ := HK2.out.node hxm
                have HK3 := hide (HK2.out.cids hxm)
                obtain ⟨g, cap, hv, hgb, hg⟩ := HO2.out.form (by omega)
                injection hv with hv1 hv2 hv3
                subst hv1 hv3
                have hat := own_atC HO2.out hp
                generalize m'[j] = y at hp hxm y1 y2 HK3 hat
                obtain ⟨yn, yi, yc, yr, yh, yg⟩ := y
                obtain ⟨r0, r1, r2, r3, r4, r5⟩ := hat
                simp only at r0 r1 r2 r3 r4 r5 y1 y2 HK3
                have y3 : (0 : Int) ≤ yn := by omega
                have y4 : yn < 11 := by omega
                have y5 : yn.toNat < 11 := by omega
                have j0 : (0 : Int) ≤ (j : Int) := by omega
                have j1 : (j : Int) < (m'.length : Int) := by omega
                clear hp hxm
                go_wp2
                go_region
                go_wp2
                go_roundw
                case rel => exact ⟨j + 1, _, by omega, by go_num, HK3.out, own_swap HO2.out (by simp) (by simp), ⟨⟨_, _⟩, rfl⟩⟩
                case measure => simp [intOf]; omega
              · go_wp2
                go_roundw
                case rel => exact ⟨k + 1, m', _, cd2, _, RA', RC', _, _, by omega, by go_num, HK2.out, HZ1.out, HO2.out, rfl⟩
                case measure => simp [intOf]; omega
        · have T := hide (fun W (hW : Cll W RA m) (hS : Reads W W.heap.size 2 SA set.length (pcs set)) => hear_s RA RC m xo 1 1 xk xn xi xr xc SA sc set (.int .u64 vr) (.int .i64 vn) (.int .u64 vi) (.slice MA ml mc) (.slice UA ul uc) W hW (by omega) hS wx2)
          rw [takenR_of HKN.out.may] at T
          have HSH := hear_shape (now := xo) (sn := 1) (si := 1) (kind := xk) (n := xn) (i := xi) (rnd := xr) (cid := xc) (set := set) HKN.out.may
          have HHH := fun hk => HKN.out.hear (now := xo) (sn := 1) (si := 1) (kind := xk) (n := xn) (i := xi) (rnd := xr) (cid := xc) (set := set) HZN.out wx3 hk
          replace HSH : (hearR m xo 1 1 xk xn xi xr xc set).2 = 0 → (hearR m xo 1 1 xk xn xi xr xc set).1 = m := fun h0 => by
            rcases HSH with h | h
            · exact h.2
            · exact absurd h0 h.1
          generalize hearR m xo 1 1 xk xn xi xr xc set = R at T HSH HHH
          obtain ⟨m', q⟩ := R
          simp only at HSH HHH
          have HSH' := hide HSH
          have HHH' := hide HHH
          clear HSH HHH
          with_reducible refine (T.out _ (HR.out.step (by repeat (first | exact Below.refl _ _ | assumption | refine bel_al ?_ _ | refine bel_gw ?_ _ _ | refine bel_drew ?_ | refine bel_drewN ?_ _))) ((Reads.below wx1 (by repeat (first | exact Below.refl _ _ | assumption | refine bel_al ?_ _ | refine bel_gw ?_ _ _ | refine bel_drew ?_ | refine bel_drewN ?_ _))).more (by simp [size_gwe]; omega))).mono ?_
          rintro e w1 ⟨v, rfl, hown, hb⟩
          simp only at hown ⊢
          obtain ⟨RA', RC', rfl, _, _⟩ := own_slice hown
          obtain ⟨⟨d1, os1⟩, rfl⟩ := gw_of_below hb
          have HRO := hide (fun W' d' hs => show OwnC (gw W' d' os1) (w.heap.size + 5) (.slice RA' m'.length RC') m' from own_base (own_swap hown hs (Nat.le_refl _)) (by simp [size_gwe]; omega))
          have HR' := hide (fun W' d' hs => show Cll (gw W' d' os1) RA' m' from Reads.of_own (own_swap hown hs (Nat.le_refl _)))
          clear hb hown
          by_cases hq : q = 0
          · subst hq
            have HK1 := hide (show Kn m' nw cd th by rw [HSH'.out rfl]; exact HKN.out)
            have HZ1 := hide (show Zn m' nw by rw [HSH'.out rfl]; exact HZN.out)
            clear HHH' HSH'
            go_wp2_with fail
            have hm6 := ((mayR_iff m').1 HK1.out.may).2.2
            have TM := hide (fun W (hW : Cll W RA' m') => show Calls Try.prog 9 #[.agg #[.slice RA' m'.length RC']] W (RetB W true) from by have := regMay_b RA' RC' m' W hW (by omega); rw [HK1.out.may] at this; exact this)
            with_reducible refine (TM.out _ (Cll.rev (by repeat (first | exact Below.refl _ _ | assumption | refine bel_al ?_ _ | refine bel_gw ?_ _ _ | refine bel_drew ?_ | refine bel_drewN ?_ _)) (HR'.out _ _ (by simp [size_gwe])))).mono ?_
            rintro e w2 ⟨rfl, hb⟩
            obtain ⟨⟨d2, os2⟩, rfl⟩ := gw_of_below hb
            clear hb
            go_wp2_with fail
            refine Calls.mono (known_t RA' RC' m' (litU nw) (litU cd) (litB th) nw cd th _ (Cll.rev (by repeat (first | exact Below.refl _ _ | assumption | refine bel_al ?_ _ | refine bel_gw ?_ _ _ | refine bel_drew ?_ | refine bel_drewN ?_ _)) (HR'.out _ _ (by simp [size_gwe]))) (arU _) (arU _) (arB _) HK1.out) ?_
            rintro e w3 ⟨rfl, hb⟩
            obtain ⟨⟨d3, os3⟩, rfl⟩ := gw_of_below hb
            clear hb
            go_wp2
            go_loopw [17] (fun i wr => ∃ (j : Nat) (cd2 : Nat → Int), j ≤ m'.length ∧ i = .int .i64 j ∧ Kn m' (nw) cd2 (th) ∧ OwnC wr (w.heap.size + 5) (.slice RA' m'.length RC') m' ∧ ∃ p : GW, wr = gw (((((w.alloc (bxR RA' m'.length RC')).alloc (bx 1 1)).alloc (.cells (litU nw) 53)).alloc (.cells (litU cd2) 53)).alloc (.cells (litB th) 54)) p.d p.os) (fun i _ => m'.length - (intOf i).toNat)
            case atStart => exact ⟨0, _, Nat.zero_le _, rfl, HK1.out, own_rev (by repeat (first | exact Below.refl _ _ | assumption | refine bel_al ?_ _ | refine bel_gw ?_ _ _ | refine bel_drew ?_ | refine bel_drewN ?_ _)) (HRO.out _ _ (by simp [size_gwe])), gw_of_below (by repeat (first | exact Below.refl _ _ | assumption | refine bel_al ?_ _ | refine bel_gw ?_ _ _ | refine bel_drew ?_ | refine bel_drewN ?_ _))⟩
            case round =>
              obtain ⟨j, cd2, hj, rfl, hk2, hown2, ⟨⟨d9, os9⟩, rfl⟩⟩ := hrel
              have HK2 := hide hk2
              have HO2 := hide hown2
              clear hk2 hown2
              by_cases hlj : j < m'.length
              · have hp : m'[j]? = some m'[j] := List.getElem?_eq_getElem hlj
                have hxm := List.mem_of_getElem? hp
                obtain ⟨y1, y2⟩ := HK2.out.node hxm
                have HK3 := hide (HK2.out.cids hxm)
                obtain ⟨g, cap, hv, hgb, hg⟩ := HO2.out.form (by omega)
                injection hv with hv1 hv2 hv3
                subst hv1 hv3
                have hat := own_atC HO2.out hp
                generalize m'[j] = y at hp hxm y1 y2 HK3 hat
                obtain ⟨yn, yi, yc, yr, yh, yg⟩ := y
                obtain ⟨r0, r1, r2, r3, r4, r5⟩ := hat
                simp only at r0 r1 r2 r3 r4 r5 y1 y2 HK3
                have y3 : (0 : Int) ≤ yn := by omega
                have y4 : yn < 11 := by omega
                have y5 : yn.toNat < 11 := by omega
                have j0 : (0 : Int) ≤ (j : Int) := by omega
                have j1 : (j : Int) < (m'.length : Int) := by omega
                clear hp hxm
                go_wp2
                go_region
                go_wp2
                go_roundw
                case rel => exact ⟨j + 1, _, by omega, by go_num, HK3.out, own_swap HO2.out (by simp) (by simp), ⟨⟨_, _⟩, rfl⟩⟩
                case measure => simp [intOf]; omega
              · go_wp2
                go_roundw
                case rel => exact ⟨k + 1, m', _, cd2, _, RA', RC', _, _, by omega, by go_num, HK2.out, HZ1.out, HO2.out, rfl⟩
                case measure => simp [intOf]; omega
          · obtain ⟨n1, n2, hle, hk1, hz1⟩ := HHH'.out hq
            have HZ1 := hide hz1
            have hqb : (q != 0) = true := by simpa using hq
            have t1 : decide (xi < nw xn.toNat) = false := by simp; omega
            have n3 : (0 : Int) ≤ xn := by omega
            have n4 : xn < 11 := by omega
            have n5 : xn.toNat < 11 := by omega
            by_cases hlt2 : nw xn.toNat < xi
            · have t2 : decide (nw xn.toNat < xi) = true := by simpa using hlt2
              rw [if_pos hlt2] at hk1
              have HK1 := hide hk1
              clear HHH' HSH' hk1 hz1 hq hlt2 hle
              go_wp2
              go_quiet (fail)
              go_wp2
              go_quiet (fail)
              go_wp2_with fail
              have hm6 := ((mayR_iff m').1 HK1.out.may).2.2
              have TM := hide (fun W (hW : Cll W RA' m') => show Calls Try.prog 9 #[.agg #[.slice RA' m'.length RC']] W (RetB W true) from by have := regMay_b RA' RC' m' W hW (by omega); rw [HK1.out.may] at this; exact this)
              with_reducible refine (TM.out _ (Cll.rev (by repeat (first | exact Below.refl _ _ | assumption | refine bel_al ?_ _ | refine bel_gw ?_ _ _ | refine bel_drew ?_ | refine bel_drewN ?_ _)) (HR'.out _ _ (by simp [size_gwe])))).mono ?_
              rintro e w2 ⟨rfl, hb⟩
              obtain ⟨⟨d2, os2⟩, rfl⟩ := gw_of_below hb
              clear hb
              go_wp2_with fail
              refine Calls.mono (known_t RA' RC' m' (litU (upd nw xn.toNat xi)) (litU (upd cd xn.toNat 0)) (litB (upd th xn.toNat true)) (upd nw xn.toNat xi) (upd cd xn.toNat 0) (upd th xn.toNat true) _ (Cll.rev (by repeat (first | exact Below.refl _ _ | assumption | refine bel_al ?_ _ | refine bel_gw ?_ _ _ | refine bel_drew ?_ | refine bel_drewN ?_ _)) (HR'.out _ _ (by simp [size_gwe]))) (arU _) (arU _) (arB _) HK1.out) ?_
              rintro e w3 ⟨rfl, hb⟩
              obtain ⟨⟨d3, os3⟩, rfl⟩ := gw_of_below hb
              clear hb
              go_wp2
              go_loopw [17] (fun i wr => ∃ (j : Nat) (cd2 : Nat → Int), j ≤ m'.length ∧ i = .int .i64 j ∧ Kn m' ((upd nw xn.toNat xi)) cd2 ((upd th xn.toNat true)) ∧ OwnC wr (w.heap.size + 5) (.slice RA' m'.length RC') m' ∧ ∃ p : GW, wr = gw (((((w.alloc (bxR RA' m'.length RC')).alloc (bx 1 1)).alloc (.cells (litU (upd nw xn.toNat xi)) 53)).alloc (.cells (litU cd2) 53)).alloc (.cells (litB (upd th xn.toNat true)) 54)) p.d p.os) (fun i _ => m'.length - (intOf i).toNat)
              case atStart => exact ⟨0, _, Nat.zero_le _, rfl, HK1.out, own_rev (by repeat (first | exact Below.refl _ _ | assumption | refine bel_al ?_ _ | refine bel_gw ?_ _ _ | refine bel_drew ?_ | refine bel_drewN ?_ _)) (HRO.out _ _ (by simp [size_gwe])), gw_of_below (by repeat (first | exact Below.refl _ _ | assumption | refine bel_al ?_ _ | refine bel_gw ?_ _ _ | refine bel_drew ?_ | refine bel_drewN ?_ _))⟩
              case round =>
                obtain ⟨j, cd2, hj, rfl, hk2, hown2, ⟨⟨d9, os9⟩, rfl⟩⟩ := hrel
                have HK2 := hide hk2
                have HO2 := hide hown2
                clear hk2 hown2
                by_cases hlj : j < m'.length
                · have hp : m'[j]? = some m'[j] := List.getElem?_eq_getElem hlj
                  have hxm := List.mem_of_getElem? hp
                  obtain ⟨y1, y2⟩ := HK2.out.node hxm
                  have HK3 := hide (HK2.out.cids hxm)
                  obtain ⟨g, cap, hv, hgb, hg⟩ := HO2.out.form (by omega)
                  injection hv with hv1 hv2 hv3
                  subst hv1 hv3
                  have hat := own_atC HO2.out hp
                  generalize m'[j] = y at hp hxm y1 y2 HK3 hat
                  obtain ⟨yn, yi, yc, yr, yh, yg⟩ := y
                  obtain ⟨r0, r1, r2, r3, r4, r5⟩ := hat
                  simp only at r0 r1 r2 r3 r4 r5 y1 y2 HK3
                  have y3 : (0 : Int) ≤ yn := by omega
                  have y4 : yn < 11 := by omega
                  have y5 : yn.toNat < 11 := by omega
                  have j0 : (0 : Int) ≤ (j : Int) := by omega
                  have j1 : (j : Int) < (m'.length : Int) := by omega
                  clear hp hxm
                  go_wp2
                  go_region
                  go_wp2
                  go_roundw
                  case rel => exact ⟨j + 1, _, by omega, by go_num, HK3.out, own_swap HO2.out (by simp) (by simp), ⟨⟨_, _⟩, rfl⟩⟩
                  case measure => simp [intOf]; omega
                · go_wp2
                  go_roundw
                  case rel => exact ⟨k + 1, m', _, cd2, _, RA', RC', _, _, by omega, by go_num, HK2.out, HZ1.out, HO2.out, rfl⟩
                  case measure => simp [intOf]; omega
            · have t2 : decide (nw xn.toNat < xi) = false := by simpa using hlt2
              rw [if_neg hlt2] at hk1
              have HK1 := hide hk1
              clear HHH' HSH' hk1 hz1 hq hlt2 hle
              go_wp2
              go_quiet (fail)
              go_wp2
              go_quiet (fail)
              go_wp2_with fail
              have hm6 := ((mayR_iff m').1 HK1.out.may).2.2
              have TM := hide (fun W (hW : Cll W RA' m') => show Calls Try.prog 9 #[.agg #[.slice RA' m'.length RC']] W (RetB W true) from by have := regMay_b RA' RC' m' W hW (by omega); rw [HK1.out.may] at this; exact this)
              with_reducible refine (TM.out _ (Cll.rev (by repeat (first | exact Below.refl _ _ | assumption | refine bel_al ?_ _ | refine bel_gw ?_ _ _ | refine bel_drew ?_ | refine bel_drewN ?_ _)) (HR'.out _ _ (by simp [size_gwe])))).mono ?_
              rintro e w2 ⟨rfl, hb⟩
              obtain ⟨⟨d2, os2⟩, rfl⟩ := gw_of_below hb
              clear hb
              go_wp2_with fail
              refine Calls.mono (known_t RA' RC' m' (litU (upd nw xn.toNat xi)) (litU cd) (litB (upd th xn.toNat true)) (upd nw xn.toNat xi) cd (upd th xn.toNat true) _ (Cll.rev (by repeat (first | exact Below.refl _ _ | assumption | refine bel_al ?_ _ | refine bel_gw ?_ _ _ | refine bel_drew ?_ | refine bel_drewN ?_ _)) (HR'.out _ _ (by simp [size_gwe]))) (arU _) (arU _) (arB _) HK1.out) ?_
              rintro e w3 ⟨rfl, hb⟩
              obtain ⟨⟨d3, os3⟩, rfl⟩ := gw_of_below hb
              clear hb
              go_wp2
              go_loopw [17] (fun i wr => ∃ (j : Nat) (cd2 : Nat → Int), j ≤ m'.length ∧ i = .int .i64 j ∧ Kn m' ((upd nw xn.toNat xi)) cd2 ((upd th xn.toNat true)) ∧ OwnC wr (w.heap.size + 5) (.slice RA' m'.length RC') m' ∧ ∃ p : GW, wr = gw (((((w.alloc (bxR RA' m'.length RC')).alloc (bx 1 1)).alloc (.cells (litU (upd nw xn.toNat xi)) 53)).alloc (.cells (litU cd2) 53)).alloc (.cells (litB (upd th xn.toNat true)) 54)) p.d p.os) (fun i _ => m'.length - (intOf i).toNat)
              case atStart => exact ⟨0, _, Nat.zero_le _, rfl, HK1.out, own_rev (by repeat (first | exact Below.refl _ _ | assumption | refine bel_al ?_ _ | refine bel_gw ?_ _ _ | refine bel_drew ?_ | refine bel_drewN ?_ _)) (HRO.out _ _ (by simp [size_gwe])), gw_of_below (by repeat (first | exact Below.refl _ _ | assumption | refine bel_al ?_ _ | refine bel_gw ?_ _ _ | refine bel_drew ?_ | refine bel_drewN ?_ _))⟩
              case round =>
                obtain ⟨j, cd2, hj, rfl, hk2, hown2, ⟨⟨d9, os9⟩, rfl⟩⟩ := hrel
                have HK2 := hide hk2
                have HO2 := hide hown2
                clear hk2 hown2
                by_cases hlj : j < m'.length
                · have hp : m'[j]? = some m'[j] := List.getElem?_eq_getElem hlj
                  have hxm := List.mem_of_getElem? hp
                  obtain ⟨y1, y2⟩ := HK2.out.node hxm
                  have HK3 := hide (HK2.out.cids hxm)
                  obtain ⟨g, cap, hv, hgb, hg⟩ := HO2.out.form (by omega)
                  injection hv with hv1 hv2 hv3
                  subst hv1 hv3
                  have hat := own_atC HO2.out hp
                  generalize m'[j] = y at hp hxm y1 y2 HK3 hat
                  obtain ⟨yn, yi, yc, yr, yh, yg⟩ := y
                  obtain ⟨r0, r1, r2, r3, r4, r5⟩ := hat
                  simp only at r0 r1 r2 r3 r4 r5 y1 y2 HK3
                  have y3 : (0 : Int) ≤ yn := by omega
                  have y4 : yn < 11 := by omega
                  have y5 : yn.toNat < 11 := by omega
                  have j0 : (0 : Int) ≤ (j : Int) := by omega
                  have j1 : (j : Int) < (m'.length : Int) := by omega
                  clear hp hxm
                  go_wp2
                  go_region
                  go_wp2
                  go_roundw
                  case rel => exact ⟨j + 1, _, by omega, by go_num, HK3.out, own_swap HO2.out (by simp) (by simp), ⟨⟨_, _⟩, rfl⟩⟩
                  case measure => simp [intOf]; omega
                · go_wp2
                  go_roundw
                  case rel => exact ⟨k + 1, m', _, cd2, _, RA', RC', _, _, by omega, by go_num, HK2.out, HZ1.out, HO2.out, rfl⟩
                  case measure => simp [intOf]; omega
      · go_wp2_with fail
        with_reducible refine (awake_t _).mono ?_
        rintro e w1 ⟨rfl, hb⟩
        obtain ⟨⟨d1, os1⟩, rfl⟩ := gw_of_below hb
        go_wp2
        go_ret
        exact ⟨rfl, (by repeat (first | exact Below.refl _ _ | assumption | refine bel_al ?_ _ | refine bel_gw ?_ _ _ | refine bel_drew ?_ | refine bel_drewN ?_ _))⟩
end Go.Proofs.Ytoajcdcdbkjefaa

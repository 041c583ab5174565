/-
  Does no node stand twice? Contract: the reference's Lives.
-/
import Derived.Test.YtniogmefbjfoaaaGreatInts
import Derived.Test.YtniogmefbjfoaaaGreatMeet
import Derived.Test.YtniogmefbjfoaaaGreatTc
namespace Go.Proofs.YtniogmefbjfoaaaGreat
set_option linter.unusedSimpArgs false
set_option linter.unusedVariables false
set_option linter.unusedSectionVars false
open Go.RowKit

/-! ### does no node stand twice? -/
def livesB (l : List Pr) : Bool := decide ((l.map (·.1)).Nodup)
theorem nodup_len : ∀ (N L : List Int), N.Nodup → (∀ x ∈ N, x ∈ L) → N.length ≤ L.length := by
  intro N
  induction N with
  | nil => intro L _ _; simp
  | cons a N ih =>
    intro L hn hs
    obtain ⟨h1, h2⟩ := List.nodup_cons.1 hn
    have ha : a ∈ L := hs a (by simp)
    have := ih (L.erase a) h2 (fun x hx => by
      have hne : x ≠ a := fun e => h1 (e ▸ hx)
      exact (List.mem_erase_of_ne hne).2 (hs x (by simp [hx])))
    rw [List.length_erase_of_mem ha] at this
    have hp : 0 < L.length := List.length_pos_of_mem ha
    simp; omega
theorem dup_less : ∀ (L : List Int), ¬ L.Nodup → ∃ L' : List Int, L'.length + 1 = L.length ∧ ∀ x ∈ L, x ∈ L' := by
  intro L
  induction L with
  | nil => intro h; simp at h
  | cons a L ih =>
    intro h
    by_cases ha : a ∈ L
    · exact ⟨L, by simp, fun x hx => by rcases List.mem_cons.1 hx with rfl | hx <;> assumption⟩
    · obtain ⟨L', h1, h2⟩ := ih (fun hn => h (List.nodup_cons.2 ⟨ha, hn⟩))
      exact ⟨a :: L', by simp; omega, fun x hx => by
        rcases List.mem_cons.1 hx with rfl | hx
        · simp
        · simp [h2 x hx]⟩
theorem lives_nodes (l : List Pr) : (((nodesL l).length : Int) == (l.length : Int)) = livesB l := by
  obtain ⟨h1, h2⟩ := nodesL_spec l
  have hN : (nodesL l).Nodup := h1.imp fun h => by omega
  have hs : ∀ x ∈ nodesL l, x ∈ l.map (·.1) := fun x hx => by
    obtain ⟨p, hp, e⟩ := (h2 x).1 hx
    exact List.mem_map.2 ⟨p, hp, e⟩
  have hs' : ∀ x ∈ l.map (·.1), x ∈ nodesL l := fun x hx => by
    obtain ⟨p, hp, e⟩ := List.mem_map.1 hx
    exact (h2 x).2 ⟨p, hp, e⟩
  unfold livesB
  by_cases hd : (l.map (·.1)).Nodup
  · rw [decide_eq_true hd]
    have a := nodup_len _ _ hN hs
    have b := nodup_len _ _ hd hs'
    simp at a b ⊢; omega
  · rw [decide_eq_false hd]
    obtain ⟨L', h3, h4⟩ := dup_less _ hd
    have := nodup_len _ L' hN (fun x hx => h4 x (hs x hx))
    simp at h3 ⊢; omega
theorem lives_step {l : List Pr} {k : Nat} {p : Pr} (h : l[k]? = some p) : ((l.take (k + 1)).map (·.1)) = (l.take k).map (·.1) ++ [p.1] := by
  rw [take_succ_of h]; simp
theorem lives_bad {l : List Pr} {k m : Nat} {p q : Pr} (h : l[k]? = some p) (hm : m < k) (h' : l[m]? = some q) (e : q.1 = p.1) : livesB l = false := by
  unfold livesB
  refine decide_eq_false fun hn => ?_
  have hk := (List.getElem?_eq_some_iff.1 h).1
  have := List.pairwise_iff_getElem.1 hn m k (by simp; omega) (by simpa using hk) hm
  obtain ⟨h1, h2⟩ := List.getElem?_eq_some_iff.1 h
  obtain ⟨h3, h4⟩ := List.getElem?_eq_some_iff.1 h'
  rw [List.getElem_map, List.getElem_map, h2, h4] at this
  exact this e
set_option maxHeartbeats 1000000 in
theorem lives_s (A : Option Addr) (c : Nat) (l : List Pr) (w : World) (h : Sl w A l) (hn : l.length ≤ 1000000) : Calls Tryz.prog 97 #[.slice A l.length c] w (RetB w (livesB l)) := by
  have HL := hide h
  clear h
  go_enter Tryz.func97, Tryz.ntmps97
  go_wp2
  go_loopw [3] (fun i wr => ∃ (k q : Nat), k ≤ l.length ∧ i = .int .i64 k ∧ wr = w.drewN q ∧ ((l.take k).map (·.1)).Nodup) (fun i _ => l.length - (intOf i).toNat)
  case atStart => exact ⟨0, 0, Nat.zero_le _, rfl, rfl, by simp⟩
  case round =>
    obtain ⟨k, q, hk, rfl, rfl, hnd⟩ := hrel
    have HN := hide hnd
    clear hnd
    by_cases hlt : k < l.length
    · obtain ⟨b, off, ⟨pn, pi⟩, rfl, hb, hp, g1, g2⟩ := HL.out.at2 hlt
      have HP := hide hp
      simp only at g1 g2
      clear hp
      have i1 : (k : Int) < (l.length : Int) := by omega
      go_wp2
      go_loopw [4] (fun j wr => ∃ (m q : Nat), m ≤ k ∧ j = .int .i64 m ∧ wr = w.drewN q ∧ pn ∉ (l.take m).map (·.1)) (fun j _ => k - (intOf j).toNat)
      case atStart => exact ⟨0, q, Nat.zero_le _, rfl, rfl, by simp⟩
      case round =>
        obtain ⟨m, q2, hm, rfl, rfl, hnot⟩ := hrel
        have HM := hide hnot
        clear hnot
        by_cases hlt2 : m < k
        · obtain ⟨b', off', ⟨qn, qi⟩, e1, hb', hp', g1', g2'⟩ := HL.out.at2 (show m < l.length by omega)
          injection e1 with e1
          injection e1 with e1 e2
          subst e1 e2
          have HP' := hide hp'
          simp only at g1' g2'
          clear hp'
          have i2 : (m : Int) < (l.length : Int) := by omega
          have i3 : (m : Int) < (k : Int) := by omega
          by_cases he : qn = pn
          · have H := hide (lives_bad HP.out hlt2 HP'.out he)
            have hxy : (qn == pn) = true := by simp [he]
            clear he
            go_wp2
            go_quiet (fail)
            go_wp2
            go_ret
            exact ⟨ret_b H.out.symm, below_drewN (below_drewN (Below.refl _ _) _) _⟩
          · have H := hide (show pn ∉ (l.take (m + 1)).map (·.1) by
              rw [lives_step HP'.out, List.mem_append, List.mem_singleton]
              rintro (h | h)
              · exact HM.out h
              · exact he h.symm)
            have hxy : (qn == pn) = false := by simp [he]
            clear he
            go_wp2
            go_quiet (fail)
            go_wp2
            go_roundw
            case rel => exact ⟨m + 1, _, by omega, by go_num, rfl, H.out⟩
            case measure => simp [intOf]; omega
        · obtain rfl : m = k := by omega
          have H := hide (show ((l.take (m + 1)).map (·.1)).Nodup by
            rw [lives_step HP.out]
            refine List.nodup_append.2 ⟨HN.out, by simp, fun a ha b hb => ?_⟩
            simp at hb
            subst hb
            intro e
            exact HM.out (e ▸ ha))
          go_wp2
          go_roundw
          case rel => exact ⟨m + 1, _, by omega, by go_num, rfl, H.out⟩
          case measure => simp [intOf]; omega
    · obtain rfl : k = l.length := by omega
      have H := hide (show livesB l = true by have := HN.out; rw [List.take_length] at this; exact decide_eq_true this)
      go_wp2
      go_ret
      exact ⟨ret_b H.out.symm, below_drewN (Below.refl _ _) _⟩

/-! ### the names, the first view -/
end Go.Proofs.YtniogmefbjfoaaaGreat

namespace Go.Proofs.YtniogmefbjfoaaaGreat
set_option linter.unusedSimpArgs false
set_option linter.unusedVariables false
set_option linter.unusedSectionVars false
open Go.RowKit

theorem Sl.tc {a W : World} {A : Option Addr} {l : List Pr} (h : Sl a A l) [b : Blw a W] : Sl W A l := h.step b.h
/-- a head -/
structure Hd where
  d : Int
  c : Int
  s : Int
  i : Int
  deriving Inhabited, DecidableEq
def hc (h : Hd) : List Value := [.int .i64 h.d, .int .u64 h.c, .int .u64 h.s, .int .u64 h.i]
def hcs (l : List Hd) : List Value := l.flatMap hc
theorem hc_len (h : Hd) : (hc h).length = 4 := rfl
theorem hc_one (l : List Hd) : ∀ u ∈ hcs l, u.oneCell' = true := by
  intro u hu
  obtain ⟨p, _, hp⟩ := List.mem_flatMap.1 hu
  simp [hc] at hp
  rcases hp with rfl | rfl | rfl | rfl <;> rfl
theorem hcs_app (l m : List Hd) : hcs (l ++ m) = hcs l ++ hcs m := List.flatMap_append
theorem hcs_len (l : List Hd) : (hcs l).length = l.length * 4 := flat_length hc_len l
theorem Reads.at4 {w : World} {B : Nat} {A : Option Addr} {n k : Nat} {l : List Hd} (h : Reads w B 4 A n (hcs l)) (hk : k < n) :
    ∃ b off p, A = some ⟨b, off, none⟩ ∧ b < B ∧ l[k]? = some p ∧ w.cell? ⟨b, off + k * 4, none⟩ = some (.int .i64 p.d) ∧ w.cell? ⟨b, off + k * 4 + 1, none⟩ = some (.int .u64 p.c) ∧ w.cell? ⟨b, off + k * 4 + 2, none⟩ = some (.int .u64 p.s) ∧ w.cell? ⟨b, off + k * 4 + 3, none⟩ = some (.int .u64 p.i) := by
  obtain ⟨b, off, rfl, hb, hcl⟩ := h.2 (by omega)
  have hl : k < l.length := by have := h.1; rw [hcs_len] at this; omega
  have hp : l[k]? = some l[k] := List.getElem?_eq_getElem hl
  refine ⟨b, off, l[k], rfl, hb, hp, ?_, ?_, ?_, ?_⟩
  · exact hcl (k * 4 + 0) _ (by rw [hcs, flat_get hc_len l k 0 _ hp (by omega)]; rfl)
  · rw [Nat.add_assoc]; exact hcl (k * 4 + 1) _ (by rw [hcs, flat_get hc_len l k 1 _ hp (by omega)]; rfl)
  · rw [Nat.add_assoc]; exact hcl (k * 4 + 2) _ (by rw [hcs, flat_get hc_len l k 2 _ hp (by omega)]; rfl)
  · rw [Nat.add_assoc]; exact hcl (k * 4 + 3) _ (by rw [hcs, flat_get hc_len l k 3 _ hp (by omega)]; rfl)

/-! ### numbers, lives -/
def countB (x m : Int) : Bool := decide (m ≤ x) && decide (x ≤ 34359738367)
def lifeB (n i : Int) : Bool := mayB n i && countB i 1
def servB (n i : Int) : Bool := lifeB n i && decide (n ≤ 4)
theorem count_s (x m : Int) (w : World) : Calls Tryz.prog 77 #[.int .u64 x, .int .u64 m] w fun e w' => e = .returned (.bool (countB x m)) ∧ w = w' := by
  by_cases h1 : m ≤ x
  · by_cases h2 : x ≤ 34359738367
    · have H := hide (show countB x m = true by simp [countB, h1, h2])
      go_enter Tryz.func77, Tryz.ntmps77
      go_wp2
      go_ret
      exact ⟨ret_b H.out.symm, rfl⟩
    · have H := hide (show countB x m = false by simp [countB, h2])
      go_enter Tryz.func77, Tryz.ntmps77
      go_wp2
      go_ret
      exact ⟨ret_b H.out.symm, rfl⟩
  · have H := hide (show countB x m = false by simp [countB, h1])
    go_enter Tryz.func77, Tryz.ntmps77
    go_wp2
    go_ret
    exact ⟨ret_b H.out.symm, rfl⟩
set_option maxHeartbeats 400000 in
theorem life_s (n i : Int) (w : World) : Calls Tryz.prog 98 #[.agg #[.int .i64 n, .int .u64 i]] w (RetB w (lifeB n i)) := by
  have TM := hide (fun W => may_b n i W)
  have TC := hide (fun W => count_s i 1 W)
  unfold lifeB
  cases hm : mayB n i with
  | false =>
    rw [hm] at TM
    clear hm
    go_enter Tryz.func98, Tryz.ntmps98
    go_wp2_with (go_at_call 16; (with_reducible refine (TM.out _).mono ?_); rintro e w1 ⟨rfl, hb⟩; haveI : Stp _ w1 := ⟨hb⟩; clear hb)
    go_ret
    exact ⟨rfl, blw⟩
  | true =>
    rw [hm] at TM
    clear hm
    cases hc : countB i 1 with
    | _ =>
      rw [hc] at TC
      clear hc
      go_enter Tryz.func98, Tryz.ntmps98
      go_wp2_with (first
        | (go_at_call 16; (with_reducible refine (TM.out _).mono ?_); rintro e w1 ⟨rfl, hb⟩; haveI : Stp _ w1 := ⟨hb⟩; clear hb)
        | (go_at_call 77; (with_reducible refine (TC.out _).mono ?_); rintro e w2 ⟨rfl, rfl⟩))
      go_ret
      exact ⟨rfl, blw⟩
set_option maxHeartbeats 400000 in
theorem serv_s (n i : Int) (w : World) : Calls Tryz.prog 76 #[.agg #[.int .i64 n, .int .u64 i]] w (RetB w (servB n i)) := by
  have TM := hide (fun W => life_s n i W)
  unfold servB
  cases hm : lifeB n i with
  | false =>
    rw [hm] at TM
    clear hm
    go_enter Tryz.func76, Tryz.ntmps76
    go_wp2_with (go_at_call 98; (with_reducible refine (TM.out _).mono ?_); rintro e w1 ⟨rfl, hb⟩; haveI : Stp _ w1 := ⟨hb⟩; clear hb)
    go_ret
    exact ⟨rfl, blw⟩
  | true =>
    rw [hm] at TM
    clear hm
    go_enter Tryz.func76, Tryz.ntmps76
    go_wp2_with (go_at_call 98; (with_reducible refine (TM.out _).mono ?_); rintro e w1 ⟨rfl, hb⟩; haveI : Stp _ w1 := ⟨hb⟩; clear hb)
    go_ret
    exact ⟨ret_b (by simp), blw⟩
end Go.Proofs.YtniogmefbjfoaaaGreat

namespace Go.Proofs.YtniogmefbjfoaaaGreat
set_option linter.unusedSimpArgs false
set_option linter.unusedVariables false
set_option linter.unusedSectionVars false
open Go.RowKit

abbrev PkV (k n i hp : Int) (HA : Option Addr) (hl hcp : Nat) (BA : Option Addr) (bl bcp : Nat) (an ai sq : Int) (PA : Option Addr) (pl pcp : Nat) : Value := .agg #[.int .i64 k, .int .i64 n, .int .u64 i, .int .i64 hp, .slice HA hl hcp, .slice BA bl bcp, .int .i64 an, .int .u64 ai, .int .u64 sq, .slice PA pl pcp]
abbrev csK (k n i hp : Int) (HA : Option Addr) (hl hcp : Nat) (BA : Option Addr) (bl bcp : Nat) (an ai sq : Int) (PA : Option Addr) (pl pcp : Nat) : Array Value := #[.int .i64 k, .int .i64 n, .int .u64 i, .int .i64 hp, .slice HA hl hcp, .slice BA bl bcp, .int .i64 an, .int .u64 ai, .int .u64 sq, .slice PA pl pcp]
def headB (n : Int) (h : Hd) : Bool := !decide (h.d < 1) && (!decide (10 < h.d) && (!(h.d == n) && countB h.c 1))
def okH (n : Int) (hs : List Hd) (k : Nat) : Bool := headB n (hs.getD k default) && (decide (k = 0) || !decide ((hs.getD k default).d ≤ (hs.getD (k - 1) default).d))
def headsB (n : Int) (hs : List Hd) : Bool := (List.range hs.length).all (okH n hs)
theorem headsB_false {n : Int} {hs : List Hd} {k : Nat} (hk : k < hs.length) (h : okH n hs k = false) : headsB n hs = false := by
  unfold headsB
  rw [List.all_eq_false]
  exact ⟨k, List.mem_range.2 hk, by rw [h]; simp⟩
theorem getH {l : List Hd} {k : Nat} {p : Hd} (h : l[k]? = some p) : l.getD k default = p := by simp [List.getD, h]
def sentB (n i hp : Int) (hs : List Hd) (an ai sq : Int) (ps : List Pr) : Bool :=
  lifeB n i && (!decide (hp < 0) && (!decide (8 < hp) && (!((hs.length : Int) == 0) && (eqP an ai 0 0 && (!(sq != 0) && (!((ps.length : Int) != 0) && headsB n hs))))))
section
variable (k n i hp : Int) (HA : Option Addr) (hcp : Nat) (hs : List Hd) (BA : Option Addr) (bcp : Nat) (bs : List Int) (an ai sq : Int) (PA : Option Addr) (pcp : Nat) (ps : List Pr)
set_option maxRecDepth 100000 in
set_option maxHeartbeats 4000000 in
theorem sent_s (w : World) (h : Reads w w.heap.size 4 HA hs.length (hcs hs)) (hl : hs.length ≤ 1000000) : Calls Tryz.prog 80 #[PkV k n i hp HA hs.length hcp BA bs.length bcp an ai sq PA ps.length pcp] w (RetB w (sentB n i hp hs an ai sq ps)) := by
  have TL := hide (fun W => life_s n i W)
  have TC := hide (fun c W => count_s c 1 W)
  haveI : Src w HA hs.length 4 (hcs hs) := ⟨h⟩
  unfold sentB
  clear h
  cases f1 : lifeB n i
  · rw [f1] at TL
    go_enter Tryz.func80, Tryz.ntmps80
    go_wp2_with (go_at_call 98; (with_reducible refine (TL.out _).mono ?_); rintro e w1 ⟨rfl, hb1⟩; haveI : Stp _ w1 := ⟨hb1⟩; clear hb1)
    go_ret
    exact ⟨ret_b (by simp), blw⟩
  · rw [f1] at TL
    cases f2 : decide (hp < 0)
    · cases f3 : decide (8 < hp)
      · cases f4 : ((hs.length : Int) == 0)
        · cases f5 : eqP an ai 0 0
          · go_enter Tryz.func80, Tryz.ntmps80
            go_wp2_with (go_at_call 98; (with_reducible refine (TL.out _).mono ?_); rintro e w1 ⟨rfl, hb1⟩; haveI : Stp _ w1 := ⟨hb1⟩; clear hb1)
            go_ret
            exact ⟨ret_b (by simp), blw⟩
          · cases f6 : (sq != 0)
            · cases f7 : ((ps.length : Int) != 0)
              · go_enter Tryz.func80, Tryz.ntmps80
                go_wp2_with (go_at_call 98; (with_reducible refine (TL.out _).mono ?_); rintro e w1 ⟨rfl, hb1⟩; haveI : Stp _ w1 := ⟨hb1⟩; clear hb1)
                go_loopw [46] (fun j wr => ∃ m : Nat, m ≤ hs.length ∧ j = .int .i64 m ∧ Below w.heap.size w wr ∧ BoxAt wr w.heap.size (csK k n i hp HA hs.length hcp BA bs.length bcp an ai sq PA ps.length pcp) 43 ∧ (List.range m).all (okH n hs) = true) (fun j _ => hs.length - (intOf j).toNat)
                case atStart => exact ⟨0, Nat.zero_le _, rfl, blw, inferInstance, by simp⟩
                case round =>
                  obtain ⟨m, hm, rfl, hB, hbx, hall⟩ := hrel
                  haveI : Blw w wr := ⟨hB⟩
                  haveI := hbx
                  have HN := hide hall
                  clear hall hB
                  by_cases hlt : m < hs.length
                  · have HR : Hid (Reads wr w.heap.size 4 HA hs.length (hcs hs)) := hide srcB
                    obtain ⟨b, off, p, rfl, hb, hp, g1, g2, g3, g4⟩ := HR.out.at4 hlt
                    have HP := hide hp
                    haveI : InW b wr := ⟨Nat.lt_of_lt_of_le hb (Blw.h (a := w) (W := wr)).size⟩
                    have i0 : (0 : Int) ≤ (m : Int) := by omega
                    have i1 : (m : Int) < (hs.length : Int) := by omega
                    have TC2 := hide (fun W => TC.out p.c W)
                    clear hp
                    cases q1 : decide (p.d < 1)
                    · cases q2 : decide (10 < p.d)
                      · cases q3 : (p.d == n)
                        · cases q4 : countB p.c 1
                          · rw [q4] at TC2
                            have H := hide (headsB_false (n := n) hlt (show okH n hs m = false by unfold okH headB; rw [getH HP.out]; simp [q1, q2, q3, q4]))
                            go_wp2_with (go_at_call 77; (with_reducible refine (TC2.out _).mono ?_); rintro e w2 ⟨rfl, rfl⟩)
                            go_ret
                            exact ⟨ret_b (by simp [H.out]), blw⟩
                          · rw [q4] at TC2
                            by_cases hk0 : m = 0
                            · have H := hide (show (List.range (m + 1)).all (okH n hs) = true by rw [all_succ, HN.out]; unfold okH headB; rw [getH HP.out]; simp [q1, q2, q3, q4, hk0])
                              have hk1 : decide (0 < m) = false := by simp; omega
                              clear hk0
                              go_wp2_with (go_at_call 77; (with_reducible refine (TC2.out _).mono ?_); rintro e w2 ⟨rfl, rfl⟩)
                              go_quiet (fail)
                              go_wp2
                              go_roundw
                              case rel => exact ⟨m + 1, by omega, by go_num, blw, inferInstance, H.out⟩
                              case measure => simp [intOf]; omega
                            · obtain ⟨b', off', p', he, hb', hp', e1, e2, e3, e4⟩ := HR.out.at4 (k := m - 1) (by omega)
                              injection he with he
                              injection he with he1 he2
                              subst he1 he2
                              have HP' := hide hp'
                              clear hp'
                              have j0 : (0 : Int) < (m : Int) := by omega
                              have hk1 : decide (0 < m) = true := by simp; omega
                              have j1 : (0 : Int) ≤ (m : Int) - 1 := by omega
                              have j2 : (m : Int) - 1 < (hs.length : Int) := by omega
                              have j3 : ((m : Int) - 1).toNat = m - 1 := by omega
                              cases q5 : decide (p.d ≤ p'.d)
                              · have H := hide (show (List.range (m + 1)).all (okH n hs) = true by rw [all_succ, HN.out]; unfold okH headB; rw [getH HP.out, getH HP'.out]; simp [q1, q2, q3, q4, q5])
                                go_wp2_with (go_at_call 77; (with_reducible refine (TC2.out _).mono ?_); rintro e w2 ⟨rfl, rfl⟩)
                                go_quiet (fail)
                                go_wp2
                                go_roundw
                                case rel => exact ⟨m + 1, by omega, by go_num, blw, inferInstance, H.out⟩
                                case measure => simp [intOf]; omega
                              · have H := hide (headsB_false (n := n) hlt (show okH n hs m = false by unfold okH headB; rw [getH HP.out, getH HP'.out]; simp [q5, hk0]))
                                go_wp2_with (go_at_call 77; (with_reducible refine (TC2.out _).mono ?_); rintro e w2 ⟨rfl, rfl⟩)
                                go_quiet (fail)
                                go_wp2
                                go_ret
                                exact ⟨ret_b (by simp [H.out]), blw⟩
                        · have H := hide (headsB_false (n := n) hlt (show okH n hs m = false by unfold okH headB; rw [getH HP.out]; simp [q1, q2, q3]))
                          go_wp2_with (go_at_call 77; (with_reducible refine (TC2.out _).mono ?_); rintro e w2 ⟨rfl, rfl⟩)
                          go_ret
                          exact ⟨ret_b (by simp [H.out]), blw⟩
                      · have H := hide (headsB_false (n := n) hlt (show okH n hs m = false by unfold okH headB; rw [getH HP.out]; simp [q1, q2]))
                        go_wp2_with (go_at_call 77; (with_reducible refine (TC2.out _).mono ?_); rintro e w2 ⟨rfl, rfl⟩)
                        go_ret
                        exact ⟨ret_b (by simp [H.out]), blw⟩
                    · have H := hide (headsB_false (n := n) hlt (show okH n hs m = false by unfold okH headB; rw [getH HP.out]; simp [q1]))
                      go_wp2_with (go_at_call 77; (with_reducible refine (TC2.out _).mono ?_); rintro e w2 ⟨rfl, rfl⟩)
                      go_ret
                      exact ⟨ret_b (by simp [H.out]), blw⟩
                  · have H := hide (show headsB n hs = true by
                      have : m = hs.length := by omega
                      subst this; exact HN.out)
                    go_wp2
                    go_ret
                    exact ⟨ret_b (by simp [H.out]), blw⟩
              · go_enter Tryz.func80, Tryz.ntmps80
                go_wp2_with (go_at_call 98; (with_reducible refine (TL.out _).mono ?_); rintro e w1 ⟨rfl, hb1⟩; haveI : Stp _ w1 := ⟨hb1⟩; clear hb1)
                go_ret
                exact ⟨ret_b (by simp), blw⟩
            · go_enter Tryz.func80, Tryz.ntmps80
              go_wp2_with (go_at_call 98; (with_reducible refine (TL.out _).mono ?_); rintro e w1 ⟨rfl, hb1⟩; haveI : Stp _ w1 := ⟨hb1⟩; clear hb1)
              go_ret
              exact ⟨ret_b (by simp), blw⟩
        · go_enter Tryz.func80, Tryz.ntmps80
          go_wp2_with (go_at_call 98; (with_reducible refine (TL.out _).mono ?_); rintro e w1 ⟨rfl, hb1⟩; haveI : Stp _ w1 := ⟨hb1⟩; clear hb1)
          go_ret
          exact ⟨ret_b (by simp), blw⟩
      · go_enter Tryz.func80, Tryz.ntmps80
        go_wp2_with (go_at_call 98; (with_reducible refine (TL.out _).mono ?_); rintro e w1 ⟨rfl, hb1⟩; haveI : Stp _ w1 := ⟨hb1⟩; clear hb1)
        go_ret
        exact ⟨ret_b (by simp), blw⟩
    · go_enter Tryz.func80, Tryz.ntmps80
      go_wp2_with (go_at_call 98; (with_reducible refine (TL.out _).mono ?_); rintro e w1 ⟨rfl, hb1⟩; haveI : Stp _ w1 := ⟨hb1⟩; clear hb1)
      go_ret
      exact ⟨ret_b (by simp), blw⟩
end
end Go.Proofs.YtniogmefbjfoaaaGreat

namespace Go.Proofs.YtniogmefbjfoaaaGreat
set_option linter.unusedSimpArgs false
set_option linter.unusedVariables false
set_option linter.unusedSectionVars false
open Go.RowKit

theorem all_take {α : Type} {f : α → Bool} {l : List α} {m : Nat} {p : α} (h : l[m]? = some p) (ha : (l.take m).all f = true) (hp : f p = true) : (l.take (m + 1)).all f = true := by
  rw [take_succ_of h, List.all_append, ha]; simp [hp]
theorem all_no {α : Type} {f : α → Bool} {l : List α} {m : Nat} {p : α} (h : l[m]? = some p) (hp : f p = false) : l.all f = false := by
  rw [List.all_eq_false]; exact ⟨p, List.mem_of_getElem? h, by rw [hp]; simp⟩
def dataH (h : Hd) : Bool := countB h.s 1 && !(h.i != 0)
def ackH (h : Hd) : Bool := countB h.s 0 && countB h.i 1
def advP (an : Int) (p : Pr) : Bool := servB p.1 p.2 && !(p.1 == an)
section
variable (k n i hp : Int) (HA : Option Addr) (hcp : Nat) (hs : List Hd) (BA : Option Addr) (bcp : Nat) (bs : List Int) (an ai sq : Int) (PA : Option Addr) (pcp : Nat) (ps : List Pr)
def dataB : Bool := sentB n i hp hs an ai sq ps && (!decide ((bs.length : Int) < 1) && (!decide (320 < (bs.length : Int)) && hs.all dataH))
def ackB : Bool := sentB n i hp hs an ai sq ps && (!((hs.length : Int) != 1) && (!((bs.length : Int) != 0) && ackH (hs.getD 0 default)))
def advB : Bool := servB an ai && (countB sq 1 && (!decide (4 < (ps.length : Int)) && (setB ps && (ps.all (advP an) && (((nodesL ps).length : Int) == (ps.length : Int))))))
set_option maxRecDepth 100000 in
set_option maxHeartbeats 4000000 in
theorem mayData_s (w : World) (h : Reads w w.heap.size 4 HA hs.length (hcs hs)) (hl : hs.length ≤ 1000000) (hbl : bs.length ≤ 1000000) : Calls Tryz.prog 59 #[PkV k n i hp HA hs.length hcp BA bs.length bcp an ai sq PA ps.length pcp] w (RetB w (dataB n i hp hs bs an ai sq ps)) := by
  have TL := hide (fun W (h : Reads W W.heap.size 4 HA hs.length (hcs hs)) => sent_s k n i hp HA hcp hs BA bcp bs an ai sq PA pcp ps W h hl)
  have TC := hide (fun c W => count_s c 1 W)
  haveI : Src w HA hs.length 4 (hcs hs) := ⟨h⟩
  unfold dataB
  clear h
  cases f1 : sentB n i hp hs an ai sq ps
  · rw [f1] at TL
    go_enter Tryz.func59, Tryz.ntmps59
    go_wp2_with (go_at_call 80; (with_reducible refine (TL.out _ src).mono ?_); rintro e w1 ⟨rfl, hb1⟩; haveI : Stp _ w1 := ⟨hb1⟩; clear hb1)
    go_ret
    exact ⟨ret_b (by simp), blw⟩
  · rw [f1] at TL
    cases f2 : decide ((bs.length : Int) < 1)
    · cases f3 : decide (320 < (bs.length : Int))
      · go_enter Tryz.func59, Tryz.ntmps59
        go_wp2_with (go_at_call 80; (with_reducible refine (TL.out _ src).mono ?_); rintro e w1 ⟨rfl, hb1⟩; haveI : Stp _ w1 := ⟨hb1⟩; clear hb1)
        go_loopw [23] (fun j wr => ∃ m : Nat, m ≤ hs.length ∧ j = .int .i64 m ∧ Below w.heap.size w wr ∧ BoxAt wr w.heap.size (csK k n i hp HA hs.length hcp BA bs.length bcp an ai sq PA ps.length pcp) 43 ∧ (hs.take m).all (dataH) = true) (fun j _ => hs.length - (intOf j).toNat)
        case atStart => exact ⟨0, Nat.zero_le _, rfl, blw, inferInstance, by simp⟩
        case round =>
          obtain ⟨m, hm, rfl, hB, hbx, hall⟩ := hrel
          haveI : Blw w wr := ⟨hB⟩
          haveI := hbx
          have HN := hide hall
          clear hall hB
          by_cases hlt : m < hs.length
          · obtain ⟨b, off, p, rfl, hb, hp, g1, g2, g3, g4⟩ := (show Reads wr w.heap.size 4 HA hs.length (hcs hs) from srcB).at4 hlt
            have HP := hide hp
            haveI : InW b wr := ⟨Nat.lt_of_lt_of_le hb (Blw.h (a := w) (W := wr)).size⟩
            have i0 : (0 : Int) ≤ (m : Int) := by omega
            have i1 : (m : Int) < (hs.length : Int) := by omega
            have TC2 := hide (fun W => TC.out p.s W)
            clear hp
            cases q1 : countB p.s 1
            · rw [q1] at TC2
              have H := hide (all_no (f := dataH) HP.out (by simp [dataH, q1]))
              go_wp2_with (go_at_call 77; (with_reducible refine (TC2.out _).mono ?_); rintro e w2 ⟨rfl, rfl⟩)
              go_ret
              exact ⟨ret_b (by simp [H.out]), blw⟩
            · rw [q1] at TC2
              cases q2 : (p.i != 0)
              · have H := hide (all_take (f := dataH) HP.out HN.out (by simp [dataH, q1, q2]))
                go_wp2_with (go_at_call 77; (with_reducible refine (TC2.out _).mono ?_); rintro e w2 ⟨rfl, rfl⟩)
                go_roundw
                case rel => exact ⟨m + 1, by omega, by go_num, blw, inferInstance, H.out⟩
                case measure => simp [intOf]; omega
              · have H := hide (all_no (f := dataH) HP.out (by simp [dataH, q1, q2]))
                go_wp2_with (go_at_call 77; (with_reducible refine (TC2.out _).mono ?_); rintro e w2 ⟨rfl, rfl⟩)
                go_ret
                exact ⟨ret_b (by simp [H.out]), blw⟩
          · have H := hide (show hs.all (dataH) = true by
              have : m = hs.length := by omega
              subst this; have := HN.out; rw [List.take_length] at this; exact this)
            go_wp2
            go_ret
            exact ⟨ret_b (by simp [H.out]), blw⟩
      · go_enter Tryz.func59, Tryz.ntmps59
        go_wp2_with (go_at_call 80; (with_reducible refine (TL.out _ src).mono ?_); rintro e w1 ⟨rfl, hb1⟩; haveI : Stp _ w1 := ⟨hb1⟩; clear hb1)
        go_ret
        exact ⟨ret_b (by simp), blw⟩
    · go_enter Tryz.func59, Tryz.ntmps59
      go_wp2_with (go_at_call 80; (with_reducible refine (TL.out _ src).mono ?_); rintro e w1 ⟨rfl, hb1⟩; haveI : Stp _ w1 := ⟨hb1⟩; clear hb1)
      go_ret
      exact ⟨ret_b (by simp), blw⟩
set_option maxRecDepth 100000 in
set_option maxHeartbeats 4000000 in
theorem mayAck_s (w : World) (h : Reads w w.heap.size 4 HA hs.length (hcs hs)) (hl : hs.length ≤ 1000000) (hbl : bs.length ≤ 1000000) : Calls Tryz.prog 60 #[PkV k n i hp HA hs.length hcp BA bs.length bcp an ai sq PA ps.length pcp] w (RetB w (ackB n i hp hs bs an ai sq ps)) := by
  have TL := hide (fun W (h : Reads W W.heap.size 4 HA hs.length (hcs hs)) => sent_s k n i hp HA hcp hs BA bcp bs an ai sq PA pcp ps W h hl)
  have T0 := hide (fun c W => count_s c 0 W)
  have T1 := hide (fun c W => count_s c 1 W)
  have HR := hide h
  haveI : Src w HA hs.length 4 (hcs hs) := ⟨h⟩
  unfold ackB
  clear h
  cases f1 : sentB n i hp hs an ai sq ps
  · rw [f1] at TL
    go_enter Tryz.func60, Tryz.ntmps60
    go_wp2_with (go_at_call 80; (with_reducible refine (TL.out _ src).mono ?_); rintro e w1 ⟨rfl, hb1⟩; haveI : Stp _ w1 := ⟨hb1⟩; clear hb1)
    go_ret
    exact ⟨ret_b (by simp), blw⟩
  · rw [f1] at TL
    cases f2 : ((hs.length : Int) != 1)
    · cases f3 : ((bs.length : Int) != 0)
      · have hl1 : hs.length = 1 := by have := f2; simp at this; omega
        obtain ⟨b, off, p, rfl, hb, hp, g1, g2, g3, g4⟩ := HR.out.at4 (k := 0) (by omega)
        haveI : InW b w := ⟨hb⟩
        have e0 : hs.getD 0 default = p := getH hp
        haveI : Src w (some ⟨b, off, none⟩) 1 4 (hcs hs) := ⟨by rw [← hl1]; exact HR.out⟩
        rw [e0]
        rw [hl1] at TL f2 ⊢
        simp only [Nat.zero_mul, Nat.add_zero] at g1 g2 g3 g4
        haveI : CellAt w b off _ := ⟨hb, g1⟩
        haveI : CellAt w b (off + 1) _ := ⟨hb, g2⟩
        haveI : CellAt w b (off + 2) _ := ⟨hb, g3⟩
        haveI : CellAt w b (off + 3) _ := ⟨hb, g4⟩
        have TQ0 := hide (fun W => T0.out p.s W)
        have TQ1 := hide (fun W => T1.out p.i W)
        clear hp e0 HR hl1 hl f2
        unfold ackH
        cases q1 : countB p.s 0
        · rw [q1] at TQ0
          go_enter Tryz.func60, Tryz.ntmps60
          go_wp2_with (first | (go_at_call 80; (with_reducible refine (TL.out _ src).mono ?_); rintro e w1 ⟨rfl, hb1⟩; haveI : Stp _ w1 := ⟨hb1⟩; clear hb1) | (go_at_call 77; (with_reducible refine (TQ0.out _).mono ?_); rintro e w2 ⟨rfl, rfl⟩))
          go_ret
          exact ⟨ret_b (by simp), blw⟩
        · rw [q1] at TQ0
          cases q2 : countB p.i 1
          all_goals
            rw [q2] at TQ1
            go_enter Tryz.func60, Tryz.ntmps60
            go_wp2_with (first | (go_at_call 80; (with_reducible refine (TL.out _ src).mono ?_); rintro e w1 ⟨rfl, hb1⟩; haveI : Stp _ w1 := ⟨hb1⟩; clear hb1) | (go_at_call 77; (first | (with_reducible refine (TQ0.out _).mono ?_) | (with_reducible refine (TQ1.out _).mono ?_)); rintro e w2 ⟨rfl, rfl⟩))
            go_ret
            exact ⟨ret_b (by simp), blw⟩
      · go_enter Tryz.func60, Tryz.ntmps60
        go_wp2_with (go_at_call 80; (with_reducible refine (TL.out _ src).mono ?_); rintro e w1 ⟨rfl, hb1⟩; haveI : Stp _ w1 := ⟨hb1⟩; clear hb1)
        go_ret
        exact ⟨ret_b (by simp), blw⟩
    · go_enter Tryz.func60, Tryz.ntmps60
      go_wp2_with (go_at_call 80; (with_reducible refine (TL.out _ src).mono ?_); rintro e w1 ⟨rfl, hb1⟩; haveI : Stp _ w1 := ⟨hb1⟩; clear hb1)
      go_ret
      exact ⟨ret_b (by simp), blw⟩
end
set_option maxRecDepth 100000 in
set_option maxHeartbeats 4000000 in
theorem mayAdv_s (an ai sq : Int) (PA : Option Addr) (pcp : Nat) (ps : List Pr) (w : World) (h : Sl w PA ps) (hl : ps.length ≤ 1000000) : Calls Tryz.prog 58 #[.agg #[.int .i64 an, .int .u64 ai, .int .u64 sq, .slice PA ps.length pcp]] w (RetB w (advB an ai sq ps)) := by
  have TV := hide (fun a b W => serv_s a b W)
  have TC := hide (fun W => count_s sq 1 W)
  have TS := hide (fun W (h : Sl W PA ps) => set_any PA pcp ps W h hl)
  have TN := hide (fun W (h : Sl W PA ps) => nodes_s PA pcp ps W h hl)
  have TV1 := hide (fun W => TV.out an ai W)
  have HS := hide h
  haveI : Src w PA ps.length 2 (pcs ps) := ⟨h⟩
  unfold advB
  clear h
  cases f1 : servB an ai
  · rw [f1] at TV1
    go_enter Tryz.func58, Tryz.ntmps58
    go_wp2_with (first | (go_at_call 76; (with_reducible refine (TV1.out _).mono ?_); rintro e w1 ⟨rfl, hb1⟩; haveI : Stp _ w1 := ⟨hb1⟩; clear hb1) | (go_at_call 77; (with_reducible refine (TC.out _).mono ?_); rintro e w2 ⟨rfl, rfl⟩) | (go_at_call 78; (with_reducible refine (TS.out _ HS.out.tc).mono ?_); rintro e w3 ⟨rfl, hb3⟩; haveI : Stp _ w3 := ⟨hb3⟩; clear hb3))
    go_ret
    exact ⟨ret_b (by simp), blw⟩
  · rw [f1] at TV1
    cases f2 : countB sq 1
    · rw [f2] at TC
      go_enter Tryz.func58, Tryz.ntmps58
      go_wp2_with (first | (go_at_call 76; (with_reducible refine (TV1.out _).mono ?_); rintro e w1 ⟨rfl, hb1⟩; haveI : Stp _ w1 := ⟨hb1⟩; clear hb1) | (go_at_call 77; (with_reducible refine (TC.out _).mono ?_); rintro e w2 ⟨rfl, rfl⟩) | (go_at_call 78; (with_reducible refine (TS.out _ HS.out.tc).mono ?_); rintro e w3 ⟨rfl, hb3⟩; haveI : Stp _ w3 := ⟨hb3⟩; clear hb3))
      go_ret
      exact ⟨ret_b (by simp), blw⟩
    · rw [f2] at TC
      cases f3 : decide (4 < (ps.length : Int))
      · cases f4 : setB ps
        · rw [f4] at TS
          go_enter Tryz.func58, Tryz.ntmps58
          go_wp2_with (first | (go_at_call 76; (with_reducible refine (TV1.out _).mono ?_); rintro e w1 ⟨rfl, hb1⟩; haveI : Stp _ w1 := ⟨hb1⟩; clear hb1) | (go_at_call 77; (with_reducible refine (TC.out _).mono ?_); rintro e w2 ⟨rfl, rfl⟩) | (go_at_call 78; (with_reducible refine (TS.out _ HS.out.tc).mono ?_); rintro e w3 ⟨rfl, hb3⟩; haveI : Stp _ w3 := ⟨hb3⟩; clear hb3))
          go_ret
          exact ⟨ret_b (by simp), blw⟩
        · rw [f4] at TS
          go_enter Tryz.func58, Tryz.ntmps58
          go_wp2_with (first | (go_at_call 76; (with_reducible refine (TV1.out _).mono ?_); rintro e w1 ⟨rfl, hb1⟩; haveI : Stp _ w1 := ⟨hb1⟩; clear hb1) | (go_at_call 77; (with_reducible refine (TC.out _).mono ?_); rintro e w2 ⟨rfl, rfl⟩) | (go_at_call 78; (with_reducible refine (TS.out _ HS.out.tc).mono ?_); rintro e w3 ⟨rfl, hb3⟩; haveI : Stp _ w3 := ⟨hb3⟩; clear hb3))
          go_loopw [30] (fun j wr => ∃ m : Nat, m ≤ ps.length ∧ j = .int .i64 m ∧ Below w.heap.size w wr ∧ BoxAt wr w.heap.size (#[.int .i64 an, .int .u64 ai, .int .u64 sq, .slice PA ps.length pcp]) 41 ∧ (ps.take m).all (advP an) = true) (fun j _ => ps.length - (intOf j).toNat)
          case atStart => exact ⟨0, Nat.zero_le _, rfl, blw, inferInstance, by simp⟩
          case round =>
            obtain ⟨m, hm, rfl, hB, hbx, hall⟩ := hrel
            haveI : Blw w wr := ⟨hB⟩
            haveI := hbx
            have HN := hide hall
            clear hall hB
            by_cases hlt : m < ps.length
            · obtain ⟨b, off, p, rfl, hb, hp, g1, g2⟩ := (show Reads wr w.heap.size 2 PA ps.length (pcs ps) from srcB).at2 hlt
              have HP := hide hp
              haveI : InW b wr := ⟨Nat.lt_of_lt_of_le hb (Blw.h (a := w) (W := wr)).size⟩
              have i0 : (0 : Int) ≤ (m : Int) := by omega
              have i1 : (m : Int) < (ps.length : Int) := by omega
              have TC2 := hide (fun W => TV.out p.1 p.2 W)
              clear hp
              cases q1 : servB p.1 p.2
              · rw [q1] at TC2
                have H := hide (all_no (f := advP an) HP.out (by simp [advP, q1]))
                go_wp2_with (go_at_call 76; (with_reducible refine (TC2.out _).mono ?_); rintro e w5 ⟨rfl, hb5⟩; haveI : Stp _ w5 := ⟨hb5⟩; clear hb5)
                go_ret
                exact ⟨ret_b (by simp [H.out]), blw⟩
              · rw [q1] at TC2
                cases q2 : (p.1 == an)
                · have H := hide (all_take (f := advP an) HP.out HN.out (by simp [advP, q1, q2]))
                  go_wp2_with (go_at_call 76; (with_reducible refine (TC2.out _).mono ?_); rintro e w5 ⟨rfl, hb5⟩; haveI : Stp _ w5 := ⟨hb5⟩; clear hb5)
                  go_roundw
                  case rel => exact ⟨m + 1, by omega, by go_num, blw, inferInstance, H.out⟩
                  case measure => simp [intOf]; omega
                · have H := hide (all_no (f := advP an) HP.out (by simp [advP, q1, q2]))
                  go_wp2_with (go_at_call 76; (with_reducible refine (TC2.out _).mono ?_); rintro e w5 ⟨rfl, hb5⟩; haveI : Stp _ w5 := ⟨hb5⟩; clear hb5)
                  go_ret
                  exact ⟨ret_b (by simp [H.out]), blw⟩
            · have H := hide (show ps.all (advP an) = true by
                have : m = ps.length := by omega
                subst this; have := HN.out; rw [List.take_length] at this; exact this)
              have hnl := nodesL_len ps
              go_wp2_with fail
              go_region_held3 (fun w' => w'.cell? ⟨w.heap.size, 3, none⟩ = some (.slice PA ps.length pcp)) ((rw [cell?_box]; rfl))
                (first
                  | (go_at_call 79; (with_reducible refine (TN.out _ HS.out.tc).mono ?_); rintro e w6 ⟨A6, c6, rfl, _, hb6⟩; haveI : Stp _ w6 := ⟨hb6⟩; clear hb6)
                  | fail)
              all_goals
                go_wp2
                go_ret
                exact ⟨ret_b (by simp [H.out]), blw⟩
      · go_enter Tryz.func58, Tryz.ntmps58
        go_wp2_with (first | (go_at_call 76; (with_reducible refine (TV1.out _).mono ?_); rintro e w1 ⟨rfl, hb1⟩; haveI : Stp _ w1 := ⟨hb1⟩; clear hb1) | (go_at_call 77; (with_reducible refine (TC.out _).mono ?_); rintro e w2 ⟨rfl, rfl⟩) | (go_at_call 78; (with_reducible refine (TS.out _ HS.out.tc).mono ?_); rintro e w3 ⟨rfl, hb3⟩; haveI : Stp _ w3 := ⟨hb3⟩; clear hb3))
        go_ret
        exact ⟨ret_b (by simp), blw⟩
/-- may a packet be? -/
def mayKB (k n i hp : Int) (hs : List Hd) (bs : List Int) (an ai sq : Int) (ps : List Pr) : Bool :=
  if k = 1 then eqP n i 0 0 && ((hp == 0) && (((hs.length : Int) == 0) && (((bs.length : Int) == 0) && advB an ai sq ps)))
  else if k = 2 then dataB n i hp hs bs an ai sq ps
  else if k = 3 then ackB n i hp hs bs an ai sq ps
  else false
section
variable (k n i hp : Int) (HA : Option Addr) (hcp : Nat) (hs : List Hd) (BA : Option Addr) (bcp : Nat) (bs : List Int) (an ai sq : Int) (PA : Option Addr) (pcp : Nat) (ps : List Pr)
set_option maxRecDepth 100000 in
set_option maxHeartbeats 4000000 in
theorem kmay_s (w : World) (h : Reads w w.heap.size 4 HA hs.length (hcs hs)) (hpp : Sl w PA ps) (hl : hs.length ≤ 1000000) (hbl : bs.length ≤ 1000000) (hpl : ps.length ≤ 1000000) : Calls Tryz.prog 37 #[PkV k n i hp HA hs.length hcp BA bs.length bcp an ai sq PA ps.length pcp] w (RetB w (mayKB k n i hp hs bs an ai sq ps)) := by
  have HP := hide hpp
  haveI : Src w HA hs.length 4 (hcs hs) := ⟨h⟩
  clear h hpp
  by_cases h1 : k = 1
  · subst h1
    have TA := hide (fun W (h : Sl W PA ps) => mayAdv_s an ai sq PA pcp ps W h hpl)
    rw [show mayKB 1 n i hp hs bs an ai sq ps = (eqP n i 0 0 && ((hp == 0) && (((hs.length : Int) == 0) && (((bs.length : Int) == 0) && advB an ai sq ps)))) from rfl]
    cases f1 : eqP n i 0 0
    · go_enter Tryz.func37, Tryz.ntmps37
      go_wp2_with (go_at_call 58; (with_reducible refine (TA.out _ HP.out.tc).mono ?_); rintro e w1 ⟨rfl, hb1⟩; haveI : Stp _ w1 := ⟨hb1⟩; clear hb1)
      go_ret
      exact ⟨ret_b (by simp), blw⟩
    · cases f2 : (hp == 0)
      · go_enter Tryz.func37, Tryz.ntmps37
        go_wp2_with (go_at_call 58; (with_reducible refine (TA.out _ HP.out.tc).mono ?_); rintro e w1 ⟨rfl, hb1⟩; haveI : Stp _ w1 := ⟨hb1⟩; clear hb1)
        go_ret
        exact ⟨ret_b (by simp), blw⟩
      · cases f3 : ((hs.length : Int) == 0)
        · go_enter Tryz.func37, Tryz.ntmps37
          go_wp2_with (go_at_call 58; (with_reducible refine (TA.out _ HP.out.tc).mono ?_); rintro e w1 ⟨rfl, hb1⟩; haveI : Stp _ w1 := ⟨hb1⟩; clear hb1)
          go_ret
          exact ⟨ret_b (by simp), blw⟩
        · cases f4 : ((bs.length : Int) == 0)
          · go_enter Tryz.func37, Tryz.ntmps37
            go_wp2_with (go_at_call 58; (with_reducible refine (TA.out _ HP.out.tc).mono ?_); rintro e w1 ⟨rfl, hb1⟩; haveI : Stp _ w1 := ⟨hb1⟩; clear hb1)
            go_ret
            exact ⟨ret_b (by simp), blw⟩
          · go_enter Tryz.func37, Tryz.ntmps37
            go_wp2_with (go_at_call 58; (with_reducible refine (TA.out _ HP.out.tc).mono ?_); rintro e w1 ⟨rfl, hb1⟩; haveI : Stp _ w1 := ⟨hb1⟩; clear hb1)
            go_ret
            exact ⟨ret_b (by simp), blw⟩
  by_cases h2 : k = 2
  · subst h2
    have TA := hide (fun W (h : Reads W W.heap.size 4 HA hs.length (hcs hs)) => mayData_s 2 n i hp HA hcp hs BA bcp bs an ai sq PA pcp ps W h hl hbl)
    rw [show mayKB 2 n i hp hs bs an ai sq ps = dataB n i hp hs bs an ai sq ps from rfl]
    clear h1
    go_enter Tryz.func37, Tryz.ntmps37
    go_wp2_with fail
    (with_reducible refine (TA.out _ src).mono ?_)
    rintro e w1 ⟨rfl, hb1⟩
    haveI : Stp _ w1 := ⟨hb1⟩
    clear hb1
    go_wp2
    go_ret
    exact ⟨rfl, blw⟩
  by_cases h3 : k = 3
  · subst h3
    have TA := hide (fun W (h : Reads W W.heap.size 4 HA hs.length (hcs hs)) => mayAck_s 3 n i hp HA hcp hs BA bcp bs an ai sq PA pcp ps W h hl hbl)
    rw [show mayKB 3 n i hp hs bs an ai sq ps = ackB n i hp hs bs an ai sq ps from rfl]
    clear h1 h2
    go_enter Tryz.func37, Tryz.ntmps37
    go_wp2_with fail
    (with_reducible refine (TA.out _ src).mono ?_)
    rintro e w1 ⟨rfl, hb1⟩
    haveI : Stp _ w1 := ⟨hb1⟩
    clear hb1
    go_wp2
    go_ret
    exact ⟨rfl, blw⟩
  have H := hide (show mayKB k n i hp hs bs an ai sq ps = false by unfold mayKB; rw [if_neg h1, if_neg h2, if_neg h3])
  have g1 : (k == 1) = false := by simpa using h1
  have g2 : (k == 2) = false := by simpa using h2
  have g3 : (k == 3) = false := by simpa using h3
  clear h1 h2 h3
  go_enter Tryz.func37, Tryz.ntmps37
  go_wp2_with fail
  go_ret
  exact ⟨ret_b H.out.symm, blw⟩
end
end Go.Proofs.YtniogmefbjfoaaaGreat

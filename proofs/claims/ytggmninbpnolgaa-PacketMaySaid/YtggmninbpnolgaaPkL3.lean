/-
  Layer 6: how long a packet is; contract: Encode, whole.
-/
import Derived.Test.YtggmninbpnolgaaPkL2
namespace Go.Proofs.Ytggmninbpnolgaa
set_option linter.unusedSimpArgs false
set_option linter.unusedVariables false
set_option linter.unusedSectionVars false
open Go.RowKit

theorem uintF_small : ∀ (m f : Nat) (x : Int), x < 128 ^ (m + 1) → (uintF f x).length ≤ m + 1
  | _, 0, _, _ => by simp [uintF]
  | 0, f + 1, x, h => by rw [uintF, if_pos (by simpa using h)]; simp
  | m + 1, f + 1, x, h => by
    rw [uintF]
    split
    · simp
    · have : x / 128 < 128 ^ (m + 1) := by
        have e : (128 : Int) ^ (m + 1 + 1) = 128 ^ (m + 1) * 128 := by rw [Int.pow_succ]
        rw [e] at h
        exact Int.ediv_lt_of_lt_mul (by omega) h
      have := uintF_small m f (x / 128) this
      simp; omega
theorem uint5 {x m : Int} (h : countB x m = true) : (uintB x).length ≤ 5 := by
  unfold countB at h
  simp only [Bool.and_eq_true, decide_eq_true_eq] at h
  exact uintF_small 4 9 x (by have := h.2; omega)
theorem life_count {n i : Int} (h : lifeB n i = true) : countB i 1 = true := by
  unfold lifeB at h; simp only [Bool.and_eq_true] at h; exact h.2
theorem procB6 {n i : Int} (h : lifeB n i = true) : (procB (n, i)).length ≤ 6 := by
  have := uint5 (life_count h)
  simp [procB]; omega
theorem heads_ok {n : Int} {hs : List Hd} (h : headsB n hs = true) : ∀ k, k < hs.length → okH n hs k = true := by
  intro k hk
  unfold headsB at h
  exact List.all_eq_true.1 h k (List.mem_range.2 hk)
theorem head_facts {n : Int} {p : Hd} (h : headB n p = true) : 1 ≤ p.d ∧ p.d ≤ 10 ∧ p.d ≠ n ∧ countB p.c 1 = true := by
  unfold headB at h
  simp only [Bool.and_eq_true, Bool.not_eq_true', decide_eq_false_iff_not, beq_eq_false_iff_ne] at h
  exact ⟨by omega, by omega, h.2.2.1, h.2.2.2⟩
theorem heads_each {n : Int} {hs : List Hd} (h : headsB n hs = true) : ∀ p ∈ hs, headB n p = true := by
  intro p hp
  obtain ⟨k, hk, rfl⟩ := List.getElem_of_mem hp
  have := heads_ok h k hk
  unfold okH at this
  simp only [Bool.and_eq_true] at this
  have e : hs.getD k default = hs[k] := getH (List.getElem?_eq_getElem hk)
  rw [e] at this
  exact this.1
theorem heads_rise {n : Int} {hs : List Hd} (h : headsB n hs = true) : ∀ k, k < hs.length → (k : Int) + 1 ≤ (hs.getD k default).d
  | 0, hk => by
    have e : hs.getD 0 default = hs[0] := getH (List.getElem?_eq_getElem hk)
    rw [e]
    have := (head_facts (heads_each h hs[0] (List.getElem_mem hk))).1
    omega
  | k + 1, hk => by
    have ih := heads_rise h k (by omega)
    have := heads_ok h (k + 1) hk
    unfold okH at this
    simp only [Bool.and_eq_true, Bool.or_eq_true, Bool.not_eq_true', decide_eq_false_iff_not, decide_eq_true_eq] at this
    rcases this.2 with h0 | h0
    · omega
    · rw [show k + 1 - 1 = k by omega] at h0
      push_cast; omega
theorem heads_ten {n : Int} {hs : List Hd} (h : headsB n hs = true) : hs.length ≤ 10 := by
  rcases Nat.eq_zero_or_pos hs.length with h0 | h0
  · omega
  · have h1 := heads_rise h (hs.length - 1) (by omega)
    have e : hs.getD (hs.length - 1) default = hs[hs.length - 1] := getH (List.getElem?_eq_getElem (by omega))
    rw [e] at h1
    have := (head_facts (heads_each h hs[hs.length - 1] (List.getElem_mem (by omega)))).2.1
    omega
theorem flat_lenM {α : Type} {f : α → List Int} {B : Nat} : ∀ l : List α, (∀ x ∈ l, (f x).length ≤ B) → (l.flatMap f).length ≤ l.length * B
  | [], _ => by simp
  | x :: l, h => by
    rw [List.flatMap_cons, List.length_append, List.length_cons, Nat.succ_mul]
    have := h x (by simp); have := flat_lenM l (fun y hy => h y (by simp [hy])); omega
/-- at most 448 bytes -/
theorem kenc_len (x : Pk) (hm : x.mayB = true) : 0 < x.enc.length ∧ x.enc.length ≤ 448 := by
  obtain ⟨k, n, i, hp, hs, bs, an, ai, sq, ps⟩ := x
  rcases may_kind hm with hk | hk | hk <;> simp only at hk <;> subst hk
  · obtain ⟨_, _, _, _, _, ha⟩ := may1 hm rfl
    simp only at ha
    obtain ⟨a1, a2, a3, a4⟩ := adv_facts ha
    have l1 : (procB (an, ai)).length ≤ 6 := procB6 (by unfold servB at a1; simp only [Bool.and_eq_true] at a1; exact a1.1)
    have l2 := uint5 a2
    have l3 := flat_lenM (f := procB) (B := 6) ps (fun p hp => procB6 (by have := a4 p hp; unfold servB at this; simp only [Bool.and_eq_true] at this; exact this.1))
    simp only [Pk.enc, if_true, advE, lsB, List.length_cons, List.length_append]
    omega
  · obtain ⟨hsn, hb1, hb2, hd⟩ := may2 hm rfl
    obtain ⟨s1, s2, s3, s4, s5, s6, s7, s8, s9⟩ := sent_facts hsn
    simp only at s1 s9 hb2 hd
    have l1 := procB6 s1
    have l0 := heads_ten s9
    have l3 := flat_lenM (f := hdB) (B := 11) hs (fun h hh => by
      have h1 := uint5 (head_facts (heads_each s9 h hh)).2.2.2
      have h2 := List.all_eq_true.1 hd h hh
      unfold dataH at h2
      simp only [Bool.and_eq_true] at h2
      have h3 := uint5 h2.1
      simp [hdB]; omega)
    have l4 : (uintB (bs.length : Int)).length ≤ 5 := uintF_small 4 9 _ (by omega)
    have hne : (2 : Int) ≠ 1 := by decide
    simp only [Pk.enc, if_neg hne, if_true, datE, topB, txtB, lsB, List.length_cons, List.length_append, List.length_nil]
    omega
  · obtain ⟨hsn, hl, hb⟩ := may3 hm rfl
    obtain ⟨s1, s2, s3, s4, s5, s6, s7, s8, s9⟩ := sent_facts hsn
    simp only at s1 s9 hl
    have l1 := procB6 s1
    have l3 := flat_len haB_len hs
    have hne : (3 : Int) ≠ 1 := by decide
    have hne2 : (3 : Int) ≠ 2 := by decide
    simp only [Pk.enc, if_neg hne, if_neg hne2, ackE, topB, lsB, List.length_cons, List.length_append, List.length_nil]
    omega
theorem kencode_s (x : Pk) (HA : Option Addr) (hcp : Nat) (BA : Option Addr) (bcp : Nat) (PA : Option Addr) (pcp : Nat) (w : World) (h : PkIn w x HA BA PA) (hf : PkF x) (hm : x.mayB = true) :
    Calls Try.prog 38 #[x.at HA hcp BA bcp PA pcp] w (RetKE w x.enc) := by
  have hen := (kenc_len x hm).2
  obtain ⟨k, n, i, hp, hs, bs, an, ai, sq, ps⟩ := x
  obtain ⟨h4, h1, h2, hl, hbl, hpl⟩ := h
  obtain ⟨f1, f2, f3, f4, f5, f6⟩ := hf
  simp only at h4 h1 h2 hl hbl hpl f1 f2 f3 f4 f5 f6
  rcases may_kind hm with hk | hk | hk <;> simp only at hk <;> subst hk
  · obtain ⟨_, _, _, _, _, ha⟩ := may1 hm rfl
    simp only at ha
    obtain ⟨a1, a2, a3, a4⟩ := adv_facts ha
    simp only [Pk.enc, if_true, List.length_cons] at hen ⊢
    exact kenc1 n i hp HA hcp hs BA bcp bs an ai sq PA pcp ps w h4 h1 h2 hl hbl hpl (by omega) f2 f3 f6 (by omega) hm
  · obtain ⟨hsn, hb1, hb2, hd⟩ := may2 hm rfl
    obtain ⟨s1, s2, s3, s4, s5, s6, s7, s8, s9⟩ := sent_facts hsn
    simp only at s2 s3 s9 hb2
    have l0 := heads_ten s9
    have hne : (2 : Int) ≠ 1 := by decide
    simp only [Pk.enc, if_neg hne, if_true, List.length_cons] at hen ⊢
    exact kenc2 n i hp HA hcp hs BA bcp bs an ai sq PA pcp ps w h4 h1 h2 hl hbl hpl (by omega) f1 s2 s3 (fun q hq => ⟨by have := (head_facts (heads_each s9 q hq)).1; omega, (head_facts (heads_each s9 q hq)).2.1, (f4 q hq).1, (f4 q hq).2.1, (f4 q hq).2.2⟩) (by omega) f5 (by omega) hm
  · obtain ⟨hsn, hlh, hb⟩ := may3 hm rfl
    obtain ⟨s1, s2, s3, s4, s5, s6, s7, s8, s9⟩ := sent_facts hsn
    simp only at s2 s3 s9
    have l0 := heads_ten s9
    have hne : (3 : Int) ≠ 1 := by decide
    have hne2 : (3 : Int) ≠ 2 := by decide
    simp only [Pk.enc, if_neg hne, if_neg hne2, List.length_cons] at hen ⊢
    exact kenc3 n i hp HA hcp hs BA bcp bs an ai sq PA pcp ps w h4 h1 h2 hl hbl hpl (by omega) f1 s2 s3 (fun q hq => ⟨by have := (head_facts (heads_each s9 q hq)).1; omega, (head_facts (heads_each s9 q hq)).2.1, (f4 q hq).1, (f4 q hq).2.1, (f4 q hq).2.2⟩) (by omega) hm
set_option maxRecDepth 100000 in
set_option maxHeartbeats 2000000 in
theorem kencode_no (x : Pk) (HA : Option Addr) (hcp : Nat) (BA : Option Addr) (bcp : Nat) (PA : Option Addr) (pcp : Nat) (w : World) (h : PkIn w x HA BA PA) (hm : x.mayB = false) :
    Calls Try.prog 38 #[x.at HA hcp BA bcp PA pcp] w fun e w' => e = .returned (.tuple #[.slice none 0 0, .int .i64 3]) ∧ Below w.heap.size w w' := by
  obtain ⟨k, n, i, hp, hs, bs, an, ai, sq, ps⟩ := x
  obtain ⟨h4, h1, h2, hl, hbl, hpl⟩ := h
  simp only at h4 h1 h2 hl hbl hpl
  have TM := hide (fun W (h : Reads W W.heap.size 4 HA hs.length (hcs hs)) (hq : Sl W PA ps) => kmay_s k n i hp HA hcp hs BA bcp bs an ai sq PA pcp ps W h hq hl hbl hpl)
  rw [show mayKB k n i hp hs bs an ai sq ps = false from hm] at TM
  have HSP := hide h2
  haveI : Src w HA hs.length 4 (hcs hs) := ⟨h4⟩
  clear h4 h1 h2 hm
  go_enter Try.func38, Try.ntmps38
  go_wp2_with fail
  (with_reducible refine (TM.out _ src HSP.out.tc).mono ?_)
  rintro e w1 ⟨rfl, hb⟩
  haveI : Stp _ w1 := ⟨hb⟩
  clear hb TM
  go_wp2
  go_ret2
  exact ⟨rfl, blw⟩
theorem kmayc_s (x : Pk) (HA : Option Addr) (hcp : Nat) (BA : Option Addr) (bcp : Nat) (PA : Option Addr) (pcp : Nat) (w : World) (h : PkIn w x HA BA PA) :
    Calls Try.prog 35 #[x.at HA hcp BA bcp PA pcp] w (RetB w x.mayB) := kmay_s x.k x.n x.i x.hp HA hcp x.hs BA bcp x.bs x.an x.ai x.sq PA pcp x.ps w h.h h.p h.hl h.bl h.pl
end Go.Proofs.Ytggmninbpnolgaa

/-
  Layer 14: contract: symMergeCmpFunc of heads.
-/
import Derived.Test.YthkkadbgggaenaaFan19
import Derived.Deep.DeepCutAuto
namespace Go.Proofs.Ythkkadbgggaenaa
set_option linter.unusedSimpArgs false
set_option linter.unusedVariables false
set_option linter.unusedSectionVars false
open Go.RowKit

def SymN (n : Nat) : Prop := ∀ (g c a m b N : Nat) (cur : Array Value) (A X Y B : List Hd) (w : World), RowC w g cur (A ++ (X ++ (Y ++ B))) → N = A.length + X.length + Y.length + B.length → a = A.length → m = A.length + X.length → b = A.length + X.length + Y.length → 0 < X.length → 0 < Y.length → Srt X → Srt Y → X.length + Y.length ≤ n → N ≤ 1000000 →
    Calls Try.prog 128 #[.slice (some ⟨g, 0, none⟩) N c, .int .i64 a, .int .i64 m, .int .i64 b, .func (.func 56) #[] #[]] w fun e w' => e = .returned (.tuple #[]) ∧ (∃ cur' R, RowC w' g cur' (A ++ (R ++ B)) ∧ Srt R ∧ Fib (X ++ Y) R) ∧ Gro [g] w w'
theorem SymFin {X Y X1 X2 Y1 Y2 R1 R2 B : List Hd} (eX : X = X1 ++ X2) (eY : Y = Y1 ++ Y2) (hX : Srt X) (hY : Srt Y) (h12 : ∀ x ∈ X1, ∀ y ∈ Y2, x.d ≤ y.d) (h21 : ∀ y ∈ Y1, ∀ x ∈ X2, y.d < x.d)
    (r1 : Srt R1) (f1 : Fib (X1 ++ Y1) R1) (r2 : Srt R2) (f2 : Fib (X2 ++ Y2) R2) : Srt (R1 ++ R2) ∧ Fib (X ++ Y) (R1 ++ R2) := by
  subst eX eY
  exact merge_one hX hY h12 h21 r1 f1 r2 f2
set_option maxRecDepth 100000 in
set_option maxHeartbeats 16000000 in
theorem sym3_s (n : Nat) (IH : SymN n) (g c a m b N : Nat) (cur : Array Value) (A X Y B : List Hd) (w : World) (h : RowC w g cur (A ++ (X ++ (Y ++ B)))) (hN : N = A.length + X.length + Y.length + B.length) (ha : a = A.length) (hm : m = A.length + X.length) (hb : b = A.length + X.length + Y.length) (hX : Srt X) (hY : Srt Y) (hX2 : 2 ≤ X.length) (hY2 : 2 ≤ Y.length) (hn : X.length + Y.length ≤ n + 1) (hl : N ≤ 1000000) :
    Calls Try.prog 128 #[.slice (some ⟨g, 0, none⟩) N c, .int .i64 a, .int .i64 m, .int .i64 b, .func (.func 56) #[] #[]] w fun e w' => e = .returned (.tuple #[]) ∧ (∃ cur' R, RowC w' g cur' (A ++ (R ++ B)) ∧ Srt R ∧ Fib (X ++ Y) R) ∧ Gro [g] w w' := by
  have TC := hide (fun x y W => bareCmp_s x y W)
  have HE : Hid (N = A.length + X.length + Y.length + B.length ∧ a = A.length ∧ m = A.length + X.length ∧ b = A.length + X.length + Y.length ∧ 2 ≤ X.length ∧ 2 ≤ Y.length ∧ X.length + Y.length ≤ n + 1) := hide ⟨hN, ha, hm, hb, hX2, hY2, hn⟩
  have HXs := hide hX
  have HYs := hide hY
  obtain ⟨K, hK⟩ : ∃ K, K = A ++ (X ++ (Y ++ B)) := ⟨_, rfl⟩
  have hlen : K.length = N := by rw [hK]; simp; omega
  rw [← hK] at h
  have HR := hide h
  have HK := hide hK
  have HLN := hide hlen
  obtain ⟨d, hd⟩ : ∃ d, (a + b) / 2 = d := ⟨_, rfl⟩
  obtain ⟨pp, hpp⟩ : ∃ pp, d + m = pp + 1 := ⟨d + m - 1, by omega⟩
  have z1 : a + 2 ≤ m := by omega
  have z2 : m + 2 ≤ b := by omega
  have z3 : b ≤ N := by omega
  have z4 : a < d := by omega
  have z5 : d < b := by omega
  have z6 : a + b ≤ d + d + 1 := by omega
  have z7 : d + d ≤ a + b := by omega
  have c0 : ((m : Int) - (a : Int) == 1) = false := beq_eq_false_iff_ne.2 (by omega)
  have c1 : ((b : Int) - (m : Int) == 1) = false := beq_eq_false_iff_ne.2 (by omega)
  have c2 : ((a : Int) + (b : Int)) / 2 = (d : Int) := by omega
  obtain ⟨nn, hnn⟩ : ∃ nn, d + m = nn := ⟨_, rfl⟩
  have c3 : (d : Int) + (m : Int) = (nn : Int) := by omega
  have c4 : (nn : Int) - 1 = (pp : Int) := by omega
  have key : ∃ s0 r0 : Nat, (a ≤ s0 ∧ s0 ≤ r0 ∧ r0 ≤ m ∧ nn ≤ s0 + b ∧ r0 + m ≤ nn ∧ (s0 = a ∨ nn = s0 + b) ∧ (r0 = m ∨ nn = r0 + m)) ∧ ((d < m ∧ s0 + b = nn ∧ r0 = d) ∨ (¬ d < m ∧ s0 = a ∧ r0 = m)) := by
    by_cases q : d < m
    · exact ⟨nn - b, d, ⟨by omega, by omega, by omega, by omega, by omega, by omega, by omega⟩, Or.inl ⟨q, by omega, rfl⟩⟩
    · exact ⟨a, m, ⟨by omega, by omega, by omega, by omega, by omega, by omega, by omega⟩, Or.inr ⟨q, rfl, rfl⟩⟩
  obtain ⟨s0, r0, hsr, hcase⟩ := key
  have HSR := hide hsr
  have HNN := hide (And.intro hnn hpp)
  clear h hN ha hm hb hX hY hX2 hY2 hn hK hlen hd hsr hnn hpp
  go_enter Try.func128, Try.ntmps128
  go_upto_if 140 with fail
  go_cut [20, 21] (fun u v wx => u = .int .i64 s0 ∧ v = .int .i64 r0 ∧ w = wx)
  case first =>
    as_aux_lemma =>
    rcases hcase with ⟨q, h1, h2⟩ | ⟨q, h1, h2⟩
    · have k1 : decide ((d : Int) < (m : Int)) = true := decide_eq_true (by omega)
      have k2 : decide (d < m) = true := decide_eq_true q
      have k3 : (nn : Int) - (b : Int) = (s0 : Int) := by omega
      have H2 := hide h2
      clear h1 h2
      go_wp2_with fail
      go_meet
      case rel => exact ⟨rfl, by rw [H2.out], rfl⟩
    · have k1 : decide ((d : Int) < (m : Int)) = false := decide_eq_false (by omega)
      have k2 : decide (d < m) = false := decide_eq_false q
      have H1 := hide h1
      have H2 := hide h2
      clear h1 h2
      go_wp2_with fail
      go_meet
      case rel => exact ⟨by rw [H1.out], by rw [H2.out], rfl⟩
  case rest =>
  as_aux_lemma =>
  obtain ⟨rfl, rfl, rfl⟩ := hcut
  clear hcase
  go_wp2_with fail
  clear c0 c1 c2 c3 c4
  go_loopw [20, 21] (fun sv rv wr => ∃ (s r : Nat), sv = .int .i64 s ∧ rv = .int .i64 r ∧ a ≤ s ∧ s ≤ r ∧ r ≤ m ∧ nn ≤ s + b ∧ r + m ≤ nn ∧
      (s = a ∨ nn = s + b ∨ ∃ p q, K[s - 1]? = some p ∧ K[nn - s]? = some q ∧ p.d ≤ q.d) ∧ (r = m ∨ nn = r + m ∨ ∃ p q, K[r]? = some p ∧ K[nn - r - 1]? = some q ∧ q.d < p.d) ∧ RowC wr g cur K ∧ Gro [g] w wr) (fun s r _ => (intOf r).toNat - (intOf s).toNat)
  case atStart => exact ⟨s0, r0, rfl, rfl, HSR.out.1, HSR.out.2.1, HSR.out.2.2.1, HSR.out.2.2.2.1, HSR.out.2.2.2.2.1, HSR.out.2.2.2.2.2.1.imp id Or.inl, HSR.out.2.2.2.2.2.2.imp id Or.inl, HR.out, Gro.refl _ _⟩
  case round =>
    obtain ⟨s, r, rfl, rfl, h1, h2, h3, h4, h5, hlo, hhi, hR, hG⟩ := hrel
    have HLO := hide hlo
    have HHI := hide hhi
    have HR2 := hide hR
    have HG := hide hG
    clear hlo hhi hR hG
    by_cases hlt : s < r
    · obtain ⟨t, ht⟩ : ∃ t, (s + r) / 2 = t := ⟨_, rfl⟩
      have ht1 : s ≤ t := by omega
      have ht2 : t < r := by omega
      obtain ⟨u, hu⟩ : ∃ u, u + t = pp := ⟨pp - t, by have := HNN.out; omega⟩
      have hun : u < N := by have := HNN.out; omega
      have hp := getD_at K (i := t) (by rw [HLN.out]; omega)
      generalize K.getD t default = p at hp
      have HP := hide hp
      have hq := getD_at K (i := u) (by rw [HLN.out]; omega)
      generalize K.getD u default = q at hq
      have HQ := hide hq
      have p0 : cur[t * 4]? = some (.int .i64 p.d) := HR2.out.c t 0 p hp (by omega)
      have p1 : cur[t * 4 + 1]? = some (.int .u64 p.c) := HR2.out.c t 1 p hp (by omega)
      have p2 : cur[t * 4 + 2]? = some (.int .u64 p.s) := HR2.out.c t 2 p hp (by omega)
      have p3 : cur[t * 4 + 3]? = some (.int .u64 p.i) := HR2.out.c t 3 p hp (by omega)
      have q0 : cur[u * 4]? = some (.int .i64 q.d) := HR2.out.c u 0 q hq (by omega)
      have q1 : cur[u * 4 + 1]? = some (.int .u64 q.c) := HR2.out.c u 1 q hq (by omega)
      have q2 : cur[u * 4 + 2]? = some (.int .u64 q.s) := HR2.out.c u 2 q hq (by omega)
      have q3 : cur[u * 4 + 3]? = some (.int .u64 q.i) := HR2.out.c u 3 q hq (by omega)
      have j0 : ((s : Int) + (r : Int)) / 2 = (t : Int) := by omega
      have j1 : (0 : Int) ≤ (t : Int) := by omega
      have j2 : (t : Int) < (N : Int) := by omega
      have j3 : (0 : Int) ≤ (u : Int) := by omega
      have j4 : (u : Int) < (N : Int) := by omega
      have j5 : (pp : Int) - (t : Int) = (u : Int) := by omega
      haveI := HR2.out.b
      haveI : InW g wr := ⟨BoxAt.lt HR2.out.b⟩
      have T := hide (fun W => TC.out q p W)
      have HT := hide (And.intro ht hu)
      clear hp hq ht hu
      by_cases hc : q.d < p.d
      · have HN := hide (show t = m ∨ nn = t + m ∨ ∃ p q, K[t]? = some p ∧ K[nn - t - 1]? = some q ∧ q.d < p.d from Or.inr (Or.inr ⟨p, q, HP.out, by have := HNN.out; have := HT.out; rw [show nn - t - 1 = u by omega]; exact HQ.out, hc⟩))
        rw [cmpI_lt hc] at T
        clear hc
        as_aux_lemma =>
        go_wp2_with fail
        (refine wp_region_gw (by kernel_rfl) (by kernel_rfl) ?_; (repeat (go_big_quiet_step ((first | (go_at_call 56; with_reducible exact calls_gw (T.out _)) | fail)))); refine wpQuiet_nil ?_; intro _ hw'; obtain ⟨⟨dq, osq⟩, hw''⟩ := hw'; subst hw'')
        go_wp2
        go_roundw
        case rel => exact ⟨s, t, rfl, rfl, h1, by omega, by omega, h4, by omega, HLO.out, HN.out, ⟨inferInstance, HR2.out.sz, HR2.out.c⟩, HG.out.trans (Gro.of blw)⟩
        case measure => simp [intOf]; omega
      · have HN := hide (show t + 1 = a ∨ nn = t + 1 + b ∨ ∃ p q, K[t + 1 - 1]? = some p ∧ K[nn - (t + 1)]? = some q ∧ p.d ≤ q.d from Or.inr (Or.inr ⟨p, q, HP.out, by have := HNN.out; have := HT.out; rw [show nn - (t + 1) = u by omega]; exact HQ.out, by omega⟩))
        have hv := cmpI_nlt hc
        clear hc
        generalize cmpI q.d p.d = v at T hv
        as_aux_lemma =>
        go_wp2_with fail
        (refine wp_region_gw (by kernel_rfl) (by kernel_rfl) ?_; (repeat (go_big_quiet_step ((first | (go_at_call 56; with_reducible exact calls_gw (T.out _)) | fail)))); refine wpQuiet_nil ?_; intro _ hw'; obtain ⟨⟨dq, osq⟩, hw''⟩ := hw'; subst hw'')
        go_wp2
        go_roundw
        case rel => exact ⟨t + 1, r, by go_num, rfl, by omega, by omega, h3, by omega, h5, HN.out, HHI.out, ⟨inferInstance, HR2.out.sz, HR2.out.c⟩, HG.out.trans (Gro.of blw)⟩
        case measure => simp [intOf]; omega
    · obtain rfl : s = r := by omega
      obtain ⟨e, he⟩ : ∃ e, e + s = nn := ⟨nn - s, by have := HNN.out; omega⟩
      have he1 : m ≤ e := by omega
      have he2 : e ≤ b := by omega
      obtain ⟨X1, X2, Y1, Y2, eX, eY, l1, l2, l3, l4, hc1, hc2⟩ := sym_end A X Y B a m b s e nn HE.out.2.1 HE.out.2.2.1 HE.out.2.2.2.1 HXs.out HYs.out h1 h3 he1 he2
        (by
          have := HLO.out
          rw [HK.out] at this
          rcases this with k | k | ⟨p, q, k1, k2, k3⟩
          · exact Or.inl k
          · exact Or.inr (Or.inl (by omega))
          · exact Or.inr (Or.inr ⟨p, q, k1, by rw [show e = nn - s by omega]; exact k2, k3⟩))
        (by
          have := HHI.out
          rw [HK.out] at this
          rcases this with k | k | ⟨p, q, k1, k2, k3⟩
          · exact Or.inl k
          · exact Or.inr (Or.inl (by omega))
          · exact Or.inr (Or.inr ⟨p, q, k1, by rw [show e - 1 = nn - s - 1 by omega]; exact k2, k3⟩))
      have hlX : X1.length + X2.length = X.length := by rw [eX, List.length_append]
      have hlY : Y1.length + Y2.length = Y.length := by rw [eY, List.length_append]
      have HL : Hid (X = X1 ++ X2 ∧ Y = Y1 ++ Y2 ∧ X1.length = s - a ∧ X2.length = m - s ∧ Y1.length = e - m ∧ Y2.length = b - e ∧ Y1.length + s = d ∧ X2.length + d = e ∧ X1.length + X2.length = X.length ∧ Y1.length + Y2.length = Y.length) := hide ⟨eX, eY, l1, l2, l3, l4, by have := HNN.out; omega, by have := HNN.out; omega, hlX, hlY⟩
      have HC := hide (And.intro hc1 hc2)
      have HR4 := hide (show RowC wr g cur (A ++ ((X1 ++ X2) ++ ((Y1 ++ Y2) ++ B))) by have := HR2.out; rw [HK.out, eX, eY] at this; exact this)
      have i0 : (nn : Int) - (s : Int) = (e : Int) := by omega
      obtain ⟨β1, hβ1⟩ : ∃ β, β = decide (s < m ∧ m < e) := ⟨_, rfl⟩
      obtain ⟨β2, hβ2⟩ : ∃ β, β = decide (a < s ∧ s < d) := ⟨_, rfl⟩
      obtain ⟨β3, hβ3⟩ : ∃ β, β = decide (d < e ∧ e < b) := ⟨_, rfl⟩
      have H1 := hide hβ1
      have H2 := hide hβ2
      have H3 := hide hβ3
      have HEE := hide he
      clear eX eY l1 l2 l3 l4 hc1 hc2 hlX hlY hβ1 hβ2 hβ3 HLO HHI HR2 he hlt h2
      go_upto_region 39 with fail
      go_cut [185] (fun v wx => v = .bool β1 ∧ wr = wx)
      case first =>
        as_aux_lemma =>
        by_cases q1 : s < m
        · by_cases q2 : m < e
          · have k1 : decide ((s : Int) < (m : Int)) = true := decide_eq_true (by omega)
            have k2 : decide (s < m) = true := decide_eq_true (by omega)
            have k3 : decide ((m : Int) < (e : Int)) = true := decide_eq_true (by omega)
            have k4 : decide (m < e) = true := decide_eq_true (by omega)
            go_wp2_with fail
            go_meet
            case rel => exact ⟨by rw [H1.out, decide_eq_true (And.intro q1 q2)], rfl⟩
          · have k1 : decide ((s : Int) < (m : Int)) = true := decide_eq_true (by omega)
            have k2 : decide (s < m) = true := decide_eq_true (by omega)
            have k3 : decide ((m : Int) < (e : Int)) = false := decide_eq_false (by omega)
            have k4 : decide (m < e) = false := decide_eq_false (by omega)
            go_wp2_with fail
            go_meet
            case rel => exact ⟨by rw [H1.out, decide_eq_false (fun h => q2 h.2)], rfl⟩
        · have k1 : decide ((s : Int) < (m : Int)) = false := decide_eq_false (by omega)
          have k2 : decide (s < m) = false := decide_eq_false (by omega)
          go_wp2_with fail
          go_meet
          case rel => exact ⟨by rw [H1.out, decide_eq_false (fun h => q1 h.1)], rfl⟩
      case rest =>
      obtain ⟨rfl, rfl⟩ := hcut
      go_upto_if 185 with fail
      go_cut [20] (fun v wx => v = .int .i64 s ∧ ∃ cur', RowC wx g cur' (A ++ ((X1 ++ Y1) ++ ((X2 ++ Y2) ++ B))) ∧ Gro [g] w wx)
      case first =>
        as_aux_lemma =>
        cases β1
        · have q := of_decide_eq_false H1.out.symm
          go_wp2_with fail
          go_meet
          case rel => exact ⟨rfl, cur, by
            have e : X2 = [] ∨ Y1 = [] := by
              have := HL.out
              by_cases h : s < m
              · exact Or.inr (List.length_eq_zero_iff.1 (by omega))
              · exact Or.inl (List.length_eq_zero_iff.1 (by omega))
            have r := HR4.out
            rcases e with e | e
            · rw [e] at r ⊢; simpa using r
            · rw [e] at r ⊢; simpa using r, HG.out⟩
        · have q := of_decide_eq_true H1.out.symm
          have T := hide (rotate_s g c s m e N cur (A ++ X1) X2 Y1 (Y2 ++ B) wr (by have := HR4.out; simpa only [List.append_assoc] using this) (by have := HE.out; have := HL.out; simp only [List.length_append] at *; omega) (by have := HE.out; have := HL.out; simp only [List.length_append] at *; omega) (by have := HE.out; have := HL.out; simp only [List.length_append] at *; omega) (by have := HE.out; have := HL.out; simp only [List.length_append] at *; omega) (by have := HL.out; omega) (by have := HL.out; omega) hl)
          clear q
          go_wp2_with fail
          (with_reducible refine T.out.mono ?_)
          rintro ex w1 ⟨rfl, ⟨cur3, hr⟩, hg⟩
          have HR5 := hide hr
          have HG5 := hide hg
          clear hr hg
          go_wp2_with fail
          go_meet
          case rel => exact ⟨rfl, cur3, by have := HR5.out; simpa only [List.append_assoc] using this, HG.out.trans HG5.out⟩
      case rest =>
      obtain ⟨rfl, cur5, hr5, hg5⟩ := hcut
      have HR5 := hide hr5
      have HG5 := hide hg5
      clear hr5 hg5 HR4 HG
      obtain ⟨w5, rfl⟩ : ∃ v, v = wc := ⟨wc, rfl⟩
      as_aux_lemma =>
      go_upto_region 41 with fail
      go_cut [199] (fun v wx => v = .bool β2 ∧ w5 = wx)
      case first =>
        as_aux_lemma =>
        by_cases q1 : a < s
        · by_cases q2 : s < d
          · have k1 : decide ((a : Int) < (s : Int)) = true := decide_eq_true (by omega)
            have k2 : decide (a < s) = true := decide_eq_true (by omega)
            have k3 : decide ((s : Int) < (d : Int)) = true := decide_eq_true (by omega)
            have k4 : decide (s < d) = true := decide_eq_true (by omega)
            go_wp2_with fail
            go_meet
            case rel => exact ⟨by rw [H2.out, decide_eq_true (And.intro q1 q2)], rfl⟩
          · have k1 : decide ((a : Int) < (s : Int)) = true := decide_eq_true (by omega)
            have k2 : decide (a < s) = true := decide_eq_true (by omega)
            have k3 : decide ((s : Int) < (d : Int)) = false := decide_eq_false (by omega)
            have k4 : decide (s < d) = false := decide_eq_false (by omega)
            go_wp2_with fail
            go_meet
            case rel => exact ⟨by rw [H2.out, decide_eq_false (fun h => q2 h.2)], rfl⟩
        · have k1 : decide ((a : Int) < (s : Int)) = false := decide_eq_false (by omega)
          have k2 : decide (a < s) = false := decide_eq_false (by omega)
          go_wp2_with fail
          go_meet
          case rel => exact ⟨by rw [H2.out, decide_eq_false (fun h => q1 h.1)], rfl⟩
      case rest =>
      obtain ⟨rfl, rfl⟩ := hcut
      go_upto_if 199 with fail
      go_cut [20] (fun v wx => v = .int .i64 s ∧ ∃ cur' R1, RowC wx g cur' (A ++ (R1 ++ ((X2 ++ Y2) ++ B))) ∧ Srt R1 ∧ Fib (X1 ++ Y1) R1 ∧ Gro [g] w wx)
      case first =>
        as_aux_lemma =>
        cases β2
        · have q := of_decide_eq_false H2.out.symm
          go_wp2_with fail
          go_meet
          case rel => exact ⟨rfl, cur5, X1 ++ Y1, HR5.out, by
            have hx := HXs.out
            rw [HL.out.1] at hx
            have hy := HYs.out
            rw [HL.out.2.1] at hy
            have := HL.out
            by_cases h : a < s
            · have e : Y1 = [] := List.length_eq_zero_iff.1 (by omega)
              rw [e, List.append_nil]; exact hx.left
            · have e : X1 = [] := List.length_eq_zero_iff.1 (by omega)
              rw [e, List.nil_append]; exact hy.left, Fib.refl _, HG5.out⟩
        · have q := of_decide_eq_true H2.out.symm
          have T := hide (IH g c a s d N cur5 A X1 Y1 ((X2 ++ Y2) ++ B) w5 (by have := HR5.out; simpa only [List.append_assoc] using this) (by have := HE.out; have := HL.out; simp only [List.length_append] at *; omega) HE.out.2.1 (by have := HE.out; have := HL.out; omega) (by have := HE.out; have := HL.out; omega) (by have := HL.out; omega) (by have := HL.out; omega) (by have := HXs.out; rw [HL.out.1] at this; exact this.left) (by have := HYs.out; rw [HL.out.2.1] at this; exact this.left) (by have := HE.out; have := HL.out; omega) hl)
          clear q
          go_wp2_with fail
          (with_reducible refine T.out.mono ?_)
          rintro ex w1 ⟨rfl, ⟨cur3, R1, hr, hs1, hf1⟩, hg⟩
          have HR6 := hide hr
          have HG6 := hide hg
          have HS6 := hide (And.intro hs1 hf1)
          clear hr hg hs1 hf1
          go_wp2_with fail
          go_meet
          case rel => exact ⟨rfl, cur3, R1, HR6.out, HS6.out.1, HS6.out.2, HG5.out.trans HG6.out⟩
      case rest =>
      obtain ⟨rfl, cur6, R1, hr6, hs6, hf6, hg6⟩ := hcut
      have HR6 := hide hr6
      have HG6 := hide hg6
      have HS6 := hide (And.intro hs6 hf6)
      clear hr6 hg6 hs6 hf6 HR5 HG5
      obtain ⟨w6, rfl⟩ : ∃ v, v = wc := ⟨wc, rfl⟩
      as_aux_lemma =>
      go_upto_region 43 with fail
      go_cut [213] (fun v wx => v = .bool β3 ∧ w6 = wx)
      case first =>
        as_aux_lemma =>
        by_cases q1 : d < e
        · by_cases q2 : e < b
          · have k1 : decide ((d : Int) < (e : Int)) = true := decide_eq_true (by omega)
            have k2 : decide (d < e) = true := decide_eq_true (by omega)
            have k3 : decide ((e : Int) < (b : Int)) = true := decide_eq_true (by omega)
            have k4 : decide (e < b) = true := decide_eq_true (by omega)
            go_wp2_with fail
            go_meet
            case rel => exact ⟨by rw [H3.out, decide_eq_true (And.intro q1 q2)], rfl⟩
          · have k1 : decide ((d : Int) < (e : Int)) = true := decide_eq_true (by omega)
            have k2 : decide (d < e) = true := decide_eq_true (by omega)
            have k3 : decide ((e : Int) < (b : Int)) = false := decide_eq_false (by omega)
            have k4 : decide (e < b) = false := decide_eq_false (by omega)
            go_wp2_with fail
            go_meet
            case rel => exact ⟨by rw [H3.out, decide_eq_false (fun h => q2 h.2)], rfl⟩
        · have k1 : decide ((d : Int) < (e : Int)) = false := decide_eq_false (by omega)
          have k2 : decide (d < e) = false := decide_eq_false (by omega)
          go_wp2_with fail
          go_meet
          case rel => exact ⟨by rw [H3.out, decide_eq_false (fun h => q1 h.1)], rfl⟩
      case rest =>
        obtain ⟨rfl, rfl⟩ := hcut
        cases β3
        · have q := of_decide_eq_false H3.out.symm
          have hr3 : RowC w6 g cur6 (A ++ ((R1 ++ (X2 ++ Y2)) ++ B)) := by have := HR6.out; simpa only [List.append_assoc] using this
          have hs3 : Srt (X2 ++ Y2) := by
            have hx := HXs.out
            rw [HL.out.1] at hx
            have hy := HYs.out
            rw [HL.out.2.1] at hy
            have := HL.out
            by_cases h : d < e
            · have e : Y2 = [] := List.length_eq_zero_iff.1 (by omega)
              rw [e, List.append_nil]; exact hx.right
            · have e : X2 = [] := List.length_eq_zero_iff.1 (by omega)
              rw [e, List.nil_append]; exact hy.right
          have HF := hide (SymFin (B := B) HL.out.1 HL.out.2.1 HXs.out HYs.out HC.out.1 HC.out.2 HS6.out.1 HS6.out.2 hs3 (Fib.refl _))
          have HR7 := hide hr3
          clear hr3 hs3 q
          go_wp2
          go_end0
          exact ⟨rfl, ⟨cur6, _, HR7.out, HF.out.1, HF.out.2⟩, HG6.out⟩
        · have q := of_decide_eq_true H3.out.symm
          as_aux_lemma =>
          have T := hide (IH g c d e b N cur6 (A ++ R1) X2 Y2 B w6 (by have := HR6.out; simpa only [List.append_assoc] using this) (by have := HE.out; have := HL.out; have := HS6.out.2.len; simp only [List.length_append] at *; omega) (by have := HE.out; have := HL.out; have := HS6.out.2.len; simp only [List.length_append] at *; omega) (by have := HE.out; have := HL.out; have := HS6.out.2.len; simp only [List.length_append] at *; omega) (by have := HE.out; have := HL.out; have := HS6.out.2.len; simp only [List.length_append] at *; omega) (by have := HL.out; omega) (by have := HL.out; omega) (by have := HXs.out; rw [HL.out.1] at this; exact this.right) (by have := HYs.out; rw [HL.out.2.1] at this; exact this.right) (by have := HE.out; have := HL.out; omega) hl)
          clear q
          go_wp2_with fail
          (with_reducible refine T.out.mono ?_)
          rintro ex w1 ⟨rfl, ⟨cur3, R2, hr, hs1, hf1⟩, hg⟩
          have HR7 := hide hr
          have HG7 := hide hg
          have HS7 := hide (And.intro hs1 hf1)
          clear hr hg hs1 hf1
          have hr3 : RowC w1 g cur3 (A ++ ((R1 ++ R2) ++ B)) := by have := HR7.out; simpa only [List.append_assoc] using this
          have HF := hide (SymFin (B := B) HL.out.1 HL.out.2.1 HXs.out HYs.out HC.out.1 HC.out.2 HS6.out.1 HS6.out.2 HS7.out.1 HS7.out.2)
          have HR8 := hide hr3
          clear hr3
          go_wp2
          go_end0
          exact ⟨rfl, ⟨cur3, _, HR8.out, HF.out.1, HF.out.2⟩, HG6.out.trans HG7.out⟩
theorem sym_s : ∀ n, SymN n
  | 0 => fun g c a m b N cur A X Y B w _ _ _ _ _ h1 _ _ _ hn _ => by omega
  | n + 1 => fun g c a m b N cur A X Y B w h hN ha hm hb h1 h2 hX hY hn hl => by
    by_cases hx : X.length = 1
    · obtain ⟨x, rfl⟩ := List.length_eq_one_iff.1 hx
      exact sym1_s g c a m b N cur A Y B x w h (by simpa using hN) ha (by simpa using hm) (by simpa using hb) hY hl
    · by_cases hy : Y.length = 1
      · obtain ⟨y, rfl⟩ := List.length_eq_one_iff.1 hy
        exact sym2_s g c a m b N cur A X B y w h (by simpa using hN) ha (by simpa using hm) (by simpa using hb) hX hx hl
      · exact sym3_s n (sym_s n) g c a m b N cur A X Y B w h hN ha hm hb hX hY (by omega) (by omega) hn hl
end Go.Proofs.Ythkkadbgggaenaa

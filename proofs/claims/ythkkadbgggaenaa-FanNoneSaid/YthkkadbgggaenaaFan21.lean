/-
  Layer 14: contracts: the stable sort of heads, of any length; fan.Bare.
-/
import Derived.Test.YthkkadbgggaenaaFan20
namespace Go.Proofs.Ythkkadbgggaenaa
set_option linter.unusedSimpArgs false
set_option linter.unusedVariables false
set_option linter.unusedSectionVars false
open Go.RowKit

set_option maxRecDepth 100000 in
set_option maxHeartbeats 8000000 in
theorem stableAll_s (g c n : Nat) (cur : Array Value) (L : List Hd) (w : World) (h : RowC w g cur L) (hn : L.length = n) (hl : n ≤ 100000) :
    Calls Try.prog 95 #[.slice (some ⟨g, 0, none⟩) n c, .int .i64 n, .func (.func 56) #[] #[]] w fun e w' => e = .returned (.tuple #[]) ∧ (∃ cur' R, RowC w' g cur' R ∧ Srt R ∧ Fib L R) ∧ Gro [g] w w' := by
  have HR := hide h
  have HN := hide hn
  clear h hn
  go_enter Try.func95, Try.ntmps95
  go_wp2_with fail
  go_loopw [7, 8] (fun av bv wr => ∃ (a b : Nat) (cur : Array Value) (P R : List Hd), av = .int .i64 a ∧ bv = .int .i64 b ∧ b = a + 20 ∧ RowC wr g cur (P ++ R) ∧ P.length = a ∧ P.length + R.length = n ∧ (∀ R', Chk 20 R' → Chk 20 (P ++ R')) ∧ Fib L (P ++ R) ∧ Gro [g] w wr) (fun a _ _ => n - (intOf a).toNat)
  case atStart => exact ⟨0, 20, cur, [], L, rfl, rfl, rfl, HR.out, rfl, by rw [HN.out]; simp, fun R' h => h, Fib.refl _, Gro.refl _ _⟩
  case round =>
    obtain ⟨a, b, cur2, P, R, rfl, rfl, hab, hR, hP, hPR, hch, hf, hG⟩ := hrel
    have HR2 := hide hR
    have HCH := hide hch
    have HF := hide hf
    have HG := hide hG
    clear hR hch hf hG
    by_cases hlt : b ≤ n
    · obtain ⟨X, R2, rfl, hX, hR2⟩ := split_at' R (n := 20) (by omega)
      rw [List.length_append] at hPR hR2
      obtain ⟨S, e1, hs, hfs⟩ := ins_plain P X R2 a b hP.symm (by omega)
      have T := hide (insert_s g c a b cur2 (P ++ (X ++ R2)) wr HR2.out (by omega) (by simp only [List.length_append]; omega) (by simp only [List.length_append]; omega))
      rw [e1, show (P ++ (X ++ R2)).length = n by simp only [List.length_append]; omega] at T
      have HS := hide (And.intro hs hfs)
      have HL := hide (And.intro hab (And.intro hP (And.intro hPR hX)))
      have hb1 : b ≤ 100000 := by omega
      clear e1 hs hfs hab hP hPR hX hR2
      go_wp2_with fail
      (with_reducible refine T.out.mono ?_)
      rintro e w1 ⟨rfl, ⟨cur3, hr⟩, hg⟩
      have HR3 := hide hr
      have HG3 := hide hg
      clear hr hg
      have hlS : S.length = 20 := by rw [← HS.out.2.len]; exact HL.out.2.2.2
      have HLS := hide hlS
      clear hlS
      go_wp2
      go_roundw
      case rel => exact ⟨b, b + 20, cur3, P ++ S, R2, rfl, by go_num, rfl, by rw [List.append_assoc]; exact HR3.out, by have := HL.out; have := HLS.out; rw [List.length_append]; omega, by have := HL.out; have := HLS.out; rw [List.length_append]; omega, fun R' h => by rw [List.append_assoc]; exact HCH.out _ (Chk.more S R' HLS.out HS.out.1 h), HF.out.trans (by rw [List.append_assoc]; exact (Fib.refl P).app (HS.out.2.app (Fib.refl R2))), HG.out.trans HG3.out⟩
      case measure => have := HL.out; simp [intOf]; omega
    · obtain ⟨S, e1, hs, hfs⟩ := ins_plain P R [] a n hP.symm (by omega)
      rw [List.append_nil] at e1
      have T := hide (insert_s g c a n cur2 (P ++ R) wr HR2.out (by omega) (by simp only [List.length_append]; omega) (by simp only [List.length_append]; omega))
      rw [e1, show (P ++ R).length = n by simp only [List.length_append]; omega] at T
      have HC2 := hide (show Chk 20 (P ++ (S ++ [])) from by rw [List.append_nil]; exact HCH.out _ (Chk.last S (by rw [← hfs.len]; omega) hs))
      have HF2 := hide (show Fib L (P ++ (S ++ [])) from HF.out.trans (by rw [List.append_nil]; exact (Fib.refl P).app hfs))
      have HLL := hide (show (P ++ (S ++ [])).length = n by simp only [List.length_append, List.append_nil]; rw [← hfs.len]; omega)
      generalize P ++ (S ++ []) = K at T HC2 HF2 HLL
      have d1 : decide (b ≤ n) = false := decide_eq_false hlt
      have d2 : decide ((b : Int) ≤ (n : Int)) = false := decide_eq_false (by omega)
      clear e1 hs hfs hab hP hPR hlt HF HCH HR2
      go_wp2_with fail
      (with_reducible refine T.out.mono ?_)
      rintro e w1 ⟨rfl, ⟨cur3, hr⟩, hg⟩
      have HR3 := hide hr
      have HG3 := hide (HG.out.trans hg)
      clear hr hg HG T
      go_wp2_with fail
      go_loopw [6] (fun kv wr => ∃ (k : Nat) (cur : Array Value) (K : List Hd), kv = .int .i64 k ∧ 20 ≤ k ∧ k ≤ 2 * n + 20 ∧ RowC wr g cur K ∧ Chk k K ∧ Fib L K ∧ K.length = n ∧ Gro [g] w wr) (fun k _ => n - (intOf k).toNat)
      case atStart => exact ⟨20, cur3, K, rfl, by omega, by omega, HR3.out, HC2.out, HF2.out, HLL.out, HG3.out⟩
      case round =>
        obtain ⟨k, cur4, K4, rfl, hk, hk2, hR, hch, hf, hKn, hG⟩ := hrel
        have HR4 := hide hR
        have HCH4 := hide hch
        have HF4 := hide hf
        have HG4 := hide hG
        have HKN := hide hKn
        clear hR hch hf hG hKn
        by_cases hkn : k < n
        · go_wp2_with fail
          go_loopw [7, 8] (fun av bv wr => ∃ (a b : Nat) (cur : Array Value) (P R : List Hd), av = .int .i64 a ∧ bv = .int .i64 b ∧ b = a + 2 * k ∧ RowC wr g cur (P ++ R) ∧ P.length = a ∧ P.length + R.length = n ∧ (∀ R', Chk (2 * k) R' → Chk (2 * k) (P ++ R')) ∧ Chk k R ∧ Fib L (P ++ R) ∧ Gro [g] w wr) (fun a _ _ => n - (intOf a).toNat)
          case atStart => exact ⟨0, 2 * k, cur4, [], K4, rfl, by go_num, by omega, HR4.out, rfl, by rw [HKN.out]; simp, fun R' h => h, HCH4.out, HF4.out, HG4.out⟩
          case round =>
            obtain ⟨a, b, cur5, P, R, rfl, rfl, hab, hR, hP, hPR, hch, hck, hf, hG⟩ := hrel
            have HR5 := hide hR
            have HCH := hide hch
            have HF := hide hf
            have HG := hide hG
            clear hR hch hf hG
            by_cases hlt : b ≤ n
            · obtain ⟨X, R1, rfl, hX, hsX, hc1⟩ := hck.first (by omega)
              rw [List.length_append] at hPR
              obtain ⟨Y, R2, rfl, hY, hsY, hc2⟩ := hc1.first (by omega)
              rw [List.length_append] at hPR
              obtain ⟨m, hm⟩ : ∃ m, a + k = m := ⟨_, rfl⟩
              have T := hide (sym_s (X.length + Y.length) g c a m b n cur5 P X Y R2 wr HR5.out (by omega) (by omega) (by omega) (by omega) (by omega) (by omega) hsX hsY (Nat.le_refl _) (by omega))
              have i1 : (a : Int) + (k : Int) = (m : Int) := by omega
              have HC2 := hide hc2
              have HL := hide (And.intro hab (And.intro hP (And.intro hPR (And.intro hX (And.intro hY hm)))))
              have hb1 : b ≤ 100000 := by omega
              have hm1 : m ≤ 100000 := by omega
              clear hab hP hPR hX hY hsX hsY hc1 hc2 hck hm
              go_wp2_with fail
              (with_reducible refine T.out.mono ?_)
              rintro e w1 ⟨rfl, ⟨cur6, S, hr, hs, hfs⟩, hg⟩
              have HR6 := hide hr
              have HG6 := hide hg
              have HS := hide (And.intro hs hfs)
              have HLS := hide (show S.length = 2 * k by have := HL.out; rw [← hfs.len, List.length_append]; omega)
              clear hr hg hs hfs
              go_wp2
              go_roundw
              case rel => exact ⟨b, b + 2 * k, cur6, P ++ S, R2, rfl, by go_num, rfl, by rw [List.append_assoc]; exact HR6.out, by have := HL.out; have := HLS.out; rw [List.length_append]; omega, by have := HL.out; have := HLS.out; rw [List.length_append]; omega, fun R' h => by rw [List.append_assoc]; exact HCH.out _ (Chk.more S R' HLS.out HS.out.1 h), HC2.out, HF.out.trans (by rw [List.append_assoc]; refine (Fib.refl P).app ?_; rw [← List.append_assoc]; exact HS.out.2.app (Fib.refl R2)), HG.out.trans HG6.out⟩
              case measure => have := HL.out; simp [intOf]; omega
            · obtain ⟨m, hm⟩ : ∃ m, a + k = m := ⟨_, rfl⟩
              have i1 : (a : Int) + (k : Int) = (m : Int) := by omega
              by_cases hmn : m < n
              · obtain ⟨X, Y, rfl, hX, hsX, hc1⟩ := hck.first (by omega)
                rw [List.length_append] at hPR
                have hsY := hc1.few (by omega)
                have T := hide (sym_s (X.length + Y.length) g c a m n n cur5 P X Y [] wr (by have := HR5.out; simpa using this) (by simp; omega) (by omega) (by omega) (by omega) (by omega) (by omega) hsX hsY (Nat.le_refl _) (by omega))
                have HL := hide (And.intro hab (And.intro hP (And.intro hPR (And.intro hX hm))))
                have HLT := hide hlt
                clear hab hP hPR hX hsX hsY hc1 hck hm
                go_wp2_with fail
                (with_reducible refine T.out.mono ?_)
                rintro e w1 ⟨rfl, ⟨cur6, S, hr, hs, hfs⟩, hg⟩
                rw [List.append_nil] at hr
                have HR6 := hide hr
                have HG6 := hide hg
                have HS := hide (And.intro hs hfs)
                have HLS := hide (show P.length + S.length = n ∧ S.length ≤ 2 * k by have := HL.out; have := HLT.out; rw [← hfs.len, List.length_append]; omega)
                clear hr hg hs hfs
                go_wp2
                go_roundw
                case rel => exact ⟨2 * k, cur6, P ++ S, by go_num, by omega, by omega, HR6.out, HCH.out _ (Chk.last S HLS.out.2 HS.out.1), HF.out.trans ((Fib.refl P).app HS.out.2), by rw [List.length_append]; exact HLS.out.1, HG.out.trans HG6.out⟩
                case measure => simp [intOf]; omega
              · have hsR := hck.few (by omega)
                have HC2 := hide (HCH.out _ (Chk.last R (by omega) hsR))
                have HLL := hide (show (P ++ R).length = n by rw [List.length_append]; omega)
                have hm1 : m ≤ 400000 := by omega
                have d1 : decide (m < n) = false := decide_eq_false hmn
                have d2 : decide ((m : Int) < (n : Int)) = false := decide_eq_false (by omega)
                clear hab hP hPR hck hm hsR
                go_wp2
                go_roundw
                case rel => exact ⟨2 * k, cur5, P ++ R, by go_num, by omega, by omega, HR5.out, HC2.out, HF.out, HLL.out, HG.out⟩
                case measure => simp [intOf]; omega
        · have HS := hide (HCH4.out.few (by rw [HKN.out]; omega))
          go_wp2
          go_end0
          exact ⟨rfl, ⟨cur4, K4, HR4.out, HS.out, HF4.out⟩, HG4.out⟩
set_option maxRecDepth 100000 in
theorem sortStableAll_s (g c n : Nat) (cur : Array Value) (L : List Hd) (w : World) (h : RowC w g cur L) (hn : L.length = n) (hl : n ≤ 100000) :
    Calls Try.prog 55 #[.slice (some ⟨g, 0, none⟩) n c, .func (.func 56) #[] #[]] w fun e w' => e = .returned (.tuple #[]) ∧ (∃ cur' R, RowC w' g cur' R ∧ Srt R ∧ Fib L R) ∧ Gro [g] w w' := by
  have T := hide (stableAll_s g c n cur L w h hn hl)
  clear h hn
  go_enter Try.func55, Try.ntmps55
  go_wp2_with fail
  (with_reducible refine T.out.mono ?_)
  rintro e w1 ⟨rfl, hr, hg⟩
  go_wp2
  go_end0
  exact ⟨rfl, hr, hg⟩
set_option maxRecDepth 100000 in
theorem insertNil_s (w : World) : Calls Try.prog 127 #[.slice none 0 0, .int .i64 0, .int .i64 0, .func (.func 56) #[] #[]] w fun e w' => e = .returned (.tuple #[]) ∧ w = w' := by
  go_enter Try.func127, Try.ntmps127
  go_wp2_with fail
  refine wp_loop_rounds 1 ?_
  rw [rounds_succ]
  go_wp2
  go_end0
  exact ⟨rfl, rfl⟩
set_option maxRecDepth 100000 in
theorem stableNil_s (w : World) : Calls Try.prog 95 #[.slice none 0 0, .int .i64 0, .func (.func 56) #[] #[]] w fun e w' => e = .returned (.tuple #[]) ∧ w = w' := by
  have T := hide (fun W => insertNil_s W)
  go_enter Try.func95, Try.ntmps95
  go_wp2_with fail
  refine wp_loop_rounds 1 ?_
  rw [rounds_succ]
  go_wp2_with fail
  (with_reducible refine (T.out _).mono ?_)
  rintro e w1 ⟨rfl, rfl⟩
  go_wp2_with fail
  refine wp_loop_rounds 1 ?_
  rw [rounds_succ]
  go_wp2
  go_end0
  exact ⟨rfl, rfl⟩
set_option maxRecDepth 100000 in
theorem sortNil_s (w : World) : Calls Try.prog 55 #[.slice none 0 0, .func (.func 56) #[] #[]] w fun e w' => e = .returned (.tuple #[]) ∧ w = w' := by
  have T := hide (fun W => stableNil_s W)
  go_enter Try.func55, Try.ntmps55
  go_wp2_with fail
  (with_reducible refine (T.out _).mono ?_)
  rintro e w1 ⟨rfl, rfl⟩
  go_wp2
  go_end0
  exact ⟨rfl, rfl⟩
/-- sorted heads in a row of their own, or nil -/
def RetBare (w : World) (L : List Hd) (e : Ending) (w' : World) : Prop := ∃ R A c, Srt R ∧ Fib L R ∧ e = .returned (.slice A R.length c) ∧ (R = [] ∨ ∃ g cur', A = some ⟨g, 0, none⟩ ∧ w.heap.size ≤ g ∧ RowC w' g cur' R) ∧ Below w.heap.size w w'
theorem RowC.of0 {W : World} {B n c : Nat} {A : Option Addr} {L : List Hd} (h : W.ownsRow B 29 4 (.slice A n c) L.length (hcs L)) : (L = [] ∧ Value.slice A n c = .slice none 0 0) ∨ ∃ g cur, A = some ⟨g, 0, none⟩ ∧ B ≤ g ∧ RowC W g cur L := by
  rcases h.2 with ⟨h1, h0⟩ | ⟨g, cap, cur, e, hB, hg, h1, h2, h3, h4⟩
  · exact Or.inl ⟨List.length_eq_zero_iff.1 h0, h1⟩
  · right
    injection e with e1 e2 e3
    refine ⟨g, cur, e1, hB, ⟨hg⟩, by rw [h3]; exact Nat.mul_le_mul_right 4 h1, fun i q p hp hq => ?_⟩
    have hi := (List.getElem?_eq_some_iff.1 hp).1
    have e5 : (cur.toList.take (L.length * 4))[i * 4 + q]? = (hcs L)[i * 4 + q]? := by rw [h4]
    rw [List.getElem?_take_of_lt (by omega), hcs, flat_get hc_len L i q p hp hq] at e5
    simpa using e5
set_option maxRecDepth 100000 in
set_option maxHeartbeats 4000000 in
theorem bareAll_s (A : Option Addr) (c : Nat) (F : List (Int × List Hd)) (w : World) (h : FanR w A F) (hfl : F.length ≤ 100000) (hl : (allH F).length ≤ 100000) :
    Calls Try.prog 20 #[.slice A F.length c] w (RetBare w (allH F)) := by
  have HF := hide h
  clear h
  go_enter Try.func20, Try.ntmps20
  go_wp2_with fail
  go_loopw [8, 3] (fun j v wr => ∃ m : Nat, m ≤ F.length ∧ j = .int .i64 m ∧ wr.ownsRow w.heap.size 29 4 v (allH (F.take m)).length (hcs (allH (F.take m))) ∧ Below w.heap.size w wr) (fun j _ _ => F.length - (intOf j).toNat)
  case atStart => exact ⟨0, Nat.zero_le _, rfl, World.ownsRow_nil _ _ _ _, Below.refl _ _⟩
  case round =>
    obtain ⟨m, hm, rfl, ho, hB⟩ := hrel
    obtain ⟨A5, c5, rfl, _, _⟩ := own_slice ho
    haveI : Blw w wr := ⟨hB⟩
    have HO := hide ho
    have hle := allH_le F m
    have zr := hB.size
    clear ho hB
    by_cases hlt : m < F.length
    · obtain ⟨b, off, p, A6, c6, rfl, hb, hp, g1, g2, hr⟩ := (HF.out.tc (W := wr)).at hlt
      haveI : InW b wr := ⟨hb⟩
      haveI : Src wr A6 p.2.length 4 (hcs p.2) := ⟨hr⟩
      have HTK := hide (show allH (F.take (m + 1)) = allH (F.take m) ++ p.2 by rw [take_succ_of hp]; simp [allH])
      have hle2 := allH_le F (m + 1)
      rw [HTK.out, List.length_append] at hle2
      have i0 : (0 : Int) ≤ (m : Int) := by omega
      have i1 : (m : Int) < (F.length : Int) := by omega
      generalize allH (F.take m) = al at HO HTK hle2 hle
      clear hp hr
      go_wp2_with (at_builtin; refine wpList_append_w Try.okHd rfl (.tmp 12) (.tmp 14) rfl w.heap.size (.slice A5 al.length c5) al.length (hcs al) p.2.length (hcs p.2) ?_ ?_ ?_ ?_ ?_ ?_ ?_ ?_; go_must ((focus (first | rfl | (simp [Act.eval, Act.put]; done))); (focus (exact own_tc HO.out)); (focus (refine ⟨_, _, rfl, ?_⟩; exact src)); (focus (exact hc_one _)); (focus (unfold maxLen; omega)); (focus omega); (focus (first | omega | (simp; done) | (simp; omega) | exact BoxAt.lt (n := w.heap.size) inferInstance)); intro v7 w7 ho7 hg7; haveI : StpB w.heap.size _ w7 := ⟨grown_belowT hg7 (by simp; omega) (fun q hq => (HO.out.lt q hq).1)⟩; have O7 := hide ho7; clear ho7 hg7))
      go_wp2
      go_roundw
      case rel => exact ⟨m + 1, by omega, by go_num, by rw [HTK.out, List.length_append, hcs_app]; exact O7.out, blw⟩
      case measure => simp [intOf]; omega
    · obtain rfl : m = F.length := by omega
      have HO8 := HO.out
      rw [List.take_length] at HO8
      have HBw := hide (show Below w.heap.size w wr from blw)
      rw [List.take_length]
      rcases RowC.of0 HO8 with ⟨e0, e1⟩ | ⟨g, cur, rfl, hg, hr⟩
      · injection e1 with e1 e2 e3
        have HE0 := hide e0
        rw [e0] at e2 ⊢
        subst e1 e3
        have T := hide (sortNil_s wr)
        clear HO HO8 e0 hle
        go_wp2_with fail
        (with_reducible refine T.out.mono ?_)
        rintro e w8 ⟨rfl, rfl⟩
        go_wp2
        go_ret
        exact ⟨[], none, _, Srt.nil, by rw [HE0.out]; exact Fib.refl _, rfl, Or.inl rfl, HBw.out⟩
      · have T := hide (sortStableAll_s g c5 (allH F).length cur (allH F) wr hr rfl hl)
        clear HO HO8 hr
        go_wp2_with fail
        (with_reducible refine T.out.mono ?_)
        rintro e w8 ⟨rfl, ⟨cur', R, hr', hs, hf⟩, hG⟩
        have HL := hide hf.len
        have HX := hide (And.intro hs (And.intro hf (And.intro hr' hG)))
        clear hs hf hr' hG
        go_wp2
        go_ret
        exact ⟨R, _, _, HX.out.1, HX.out.2.1, by rw [HL.out]; rfl, Or.inr ⟨g, cur', rfl, hg, HX.out.2.2.1⟩, HBw.out.trans (HX.out.2.2.2.below zr (by simp; omega))⟩
end Go.Proofs.Ythkkadbgggaenaa

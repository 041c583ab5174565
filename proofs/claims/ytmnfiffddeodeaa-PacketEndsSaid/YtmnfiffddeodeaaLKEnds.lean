/-
  Layer 6: the law PacketEnds: true for every input.
-/
import Derived.Test.YtmnfiffddeodeaaOpenK
import Derived.Test.YtmnfiffddeodeaaPkA
import Derived.Test.YtmnfiffddeodeaaPkB
import Derived.Test.YtmnfiffddeodeaaTcL
namespace Go.Proofs.Ytmnfiffddeodeaa
set_option linter.unusedSimpArgs false
set_option linter.unusedVariables false
set_option linter.unusedSectionVars false
open Go.RowKit
theorem own_emptyB' (w : World) (m : Nat) (hm : w.heap.size = m) : (w.alloc (.cells #[] 5)).ownsRow m 5 1 (.slice (some ⟨m, 0, none⟩) 0 0) 0 [] := by subst hm; exact World.ownsRow_lit w #[] 0 (Nat.le_refl _) (by unfold maxLen; omega) rfl
theorem own_some {w : World} {base : Nat} {e : TypeId} {k n : Nat} {v : Value} {xs : List Value} (h : w.ownsRow base e k v n xs) (hn : 0 < n) : ∃ g c, v = .slice (some ⟨g, 0, none⟩) n c ∧ n ≤ c ∧ c ≤ maxLen := by
  obtain ⟨A, c, rfl, h1, h2⟩ := own_slice h
  obtain ⟨g, cap, hv, _, _⟩ := h.form hn
  injection hv with e1 e2 e3
  subst e1
  exact ⟨g, c, rfl, h1, h2⟩
/-- a number's last sixteen binary digits -/
theorem and16 (x : Int) : ∃ c : Nat, bits BinOp.and IntKind.i64 x 65535 = (c : Int) ∧ c ≤ 65535 := by
  have h : (BitVec.ofInt 64 x &&& BitVec.ofInt 64 65535).toNat ≤ 65535 := by
    rw [BitVec.toNat_and]
    exact Nat.le_trans Nat.and_le_right (by decide)
  refine ⟨(BitVec.ofInt 64 x &&& BitVec.ofInt 64 65535).toNat, ?_, h⟩
  show IntKind.i64.wrap ((BitVec.ofInt 64 x &&& BitVec.ofInt 64 65535).toNat : Int) = _
  generalize (BitVec.ofInt 64 x &&& BitVec.ofInt 64 65535).toNat = n at h ⊢
  simp [IntKind.wrap, IntKind.signed, IntKind.bits]
  omega
set_option maxRecDepth 100000 in
set_option maxHeartbeats 4000000 in
theorem packetEndsY (x : Pk) (HA : Option Addr) (hcp : Nat) (BA : Option Addr) (bcp : Nat) (PA : Option Addr) (pcp : Nat) (cut mo : Int) (w : World) (h : PkIn w x HA BA PA) (hf : PkF x) (hmo : 0 ≤ mo ∧ mo < 256) (hh : longB x = false) (hm : x.mayB = true) :
    Calls Try.prog 7 #[x.at HA hcp BA bcp PA pcp, .int .i64 cut, .int .u8 mo] w (RetB w true) := by
  have hlen := kenc_len x hm
  have TA := hide (fun W => awake6_t W)
  have TL := hide (fun W => long_s x HA hcp BA bcp PA pcp W)
  rw [hh] at TL
  have TE := hide (fun W (h : PkIn W x HA BA PA) => kencode_s x HA hcp BA bcp PA pcp W h hf hm)
  have TD : Hid (∀ A c k W, k < x.enc.length → Reads W W.heap.size 1 A k (bcs (x.enc.take k)) → Calls Try.prog 17 #[.slice A k c] W (RetDecK W none)) := hide (fun A c k W hk h => by
    have hl : (x.enc.take k).length = k := by simp; omega
    have := kdecode_s A c (x.enc.take k) W (by rw [hl]; exact h) (by omega) (fun b hb => Pk.enc_bOK hf hm b (List.mem_of_mem_take hb))
    rw [decK_cut x k hk hm hf (Pk.enc_bOK hf hm), hl] at this; exact this)
  have TD2 : Hid (∀ A c W, Reads W W.heap.size 1 A (x.enc.length + 1) (bcs x.enc ++ bcs [mo]) → Calls Try.prog 17 #[.slice A (x.enc.length + 1) c] W (RetDecK W none)) := hide (fun A c W h => by
    have hl : (x.enc ++ [mo]).length = x.enc.length + 1 := by simp
    have := kdecode_s A c (x.enc ++ [mo]) W (by rw [hl, bcs_app]; exact h) (by omega) ((Pk.enc_bOK hf hm).app (bOK.cons hmo bOK.nil))
    rw [decK_more x [mo] hm hf (by simp), hl] at this; exact this)
  have HX := hide h
  generalize x.enc = en at TE TD TD2 hlen
  obtain ⟨hl0, hl1⟩ := hlen
  have hlen0 : ((en.length : Int) == 0) = false := by rw [beq_eq_false_iff_ne]; omega
  obtain ⟨c, hc, hcl⟩ := and16 cut
  obtain ⟨k, n, i, hp, hs, bo, an, ai, sq, ps⟩ := x
  simp only [RetDecK, RetPk, Pk.at, pk0, List.length_nil] at TD TD2 TE TL ⊢
  clear h hh hm hf hmo
  go_enter Try.func7, Try.ntmps7
  go_wp2_with fail
  (with_reducible refine (TL.out _).mono ?_)
  rintro e w1 ⟨rfl, hb⟩
  haveI : Stp _ w1 := ⟨hb⟩
  clear hb TL
  go_wp2_with fail
  (with_reducible refine (TE.out _ HX.out.tc).mono ?_)
  rintro e w2 ⟨v2, rfl, ho2, hb⟩
  haveI : Stp _ w2 := ⟨hb⟩
  obtain ⟨g2, c2, rfl, hc2, hm2⟩ := own_some ho2 hl0
  haveI : Src w2 (some ⟨g2, 0, none⟩) en.length 1 (bcs en) := ⟨Reads.of_own ho2⟩
  obtain ⟨j, hj, hjl⟩ : ∃ j : Nat, (c : Int) % (en.length : Int) = (j : Int) ∧ j < en.length := ⟨c % en.length, by simp, Nat.mod_lt _ hl0⟩
  have hjc : j ≤ c2 := by omega
  have hrk : Reads w2 w2.heap.size 1 (some ⟨g2, 0, none⟩) j (bcs (en.take j)) := by
    have := (Reads.of_own ho2).head (m := j) (by omega)
    rwa [bcs_take] at this
  have T2 := hide (fun c => TD.out _ c _ _ hjl hrk)
  clear hb ho2 TE TD hrk
  go_wp2_with fail
  (with_reducible refine (T2.out _).mono ?_)
  rintro e w3 ⟨HA3, hcp3, BA3, bcp3, PA3, pcp3, rfl, hin, hb⟩
  haveI : Stp _ w3 := ⟨hb⟩
  haveI : LeN w.heap.size (w3.heap.size + 1) := ⟨by have := Blw.size (a := w) (W := w3) inferInstance; omega⟩
  clear hb T2 hin hj hjl hjc
  go_wp2_with (first
    | (at_builtin; refine wpList_append_w Try.okB rfl (.tmp 40) (.tmp 41) rfl (w3.heap.size + 1) (.slice (some ⟨w3.heap.size + 1, 0, none⟩) 0 0) 0 [] en.length (bcs en) ?_ ?_ ?_ ?_ ?_ ?_ ?_ ?_; go_must ((focus (first | rfl | (simp [Act.eval, Act.put]; done))); (focus (exact own_emptyB' _ _ (by simp))); (focus (refine ⟨_, _, rfl, ?_⟩; exact src)); (focus (exact bcs_one _)); (focus (unfold maxLen; omega)); (focus omega); (focus (first | omega | (simp; done) | (simp; omega) | exact BoxAt.lt (n := w.heap.size) inferInstance)); intro v7 w7 ho7 hg7; rw [Nat.zero_add, List.nil_append] at ho7; haveI : StpB (w3.heap.size + 1) _ w7 := ⟨grown_belowB hg7 (by simp) (fun k hk => by have e : w3.heap.size + 1 = k := Option.some.inj hk; omega)⟩; have hz7 := hg7.size; simp at hz7; obtain ⟨A7, c7, rfl, _, _⟩ := own_slice ho7; have O7 := hide ho7; clear ho7 hg7))
    | (at_builtin; refine wpList_append_w Try.okB rfl (.tmp 42) (.tmp 44) rfl (w3.heap.size + 1) (.slice A7 en.length c7) en.length (bcs en) 1 (bcs [mo]) ?_ ?_ ?_ ?_ ?_ ?_ ?_ ?_; go_must ((focus (first | rfl | (simp [Act.eval, Act.put]; done))); (focus (exact own_tc O7.out)); (focus (refine ⟨_, _, rfl, ?_⟩; exact reads_b1x _ _ _)); (focus (exact bcs_one _)); (focus (unfold maxLen; omega)); (focus omega); (focus (first | omega | (simp; done) | (simp; omega) | exact BoxAt.lt (n := w.heap.size) inferInstance)); intro v8 w8 ho8 hg8; haveI : StpB (w3.heap.size + 1) _ w8 := ⟨grown_belowT hg8 (by simp; omega) (fun q hq => (O7.out.lt q hq).1)⟩; obtain ⟨A8, c8, rfl, _, _⟩ := own_slice ho8; have R8 := hide (TD2.out A8 c8 _ (Reads.of_own ho8)); clear ho8 hg8)))
  (with_reducible refine R8.out.mono ?_)
  rintro e w9 ⟨HA9, hcp9, BA9, bcp9, PA9, pcp9, rfl, hin, hb⟩
  haveI : Stp _ w9 := ⟨hb⟩
  clear hb hin R8 TD2
  go_wp2_with fail
  (with_reducible refine (TA.out _).mono ?_)
  rintro e w10 ⟨rfl, hb⟩
  haveI : Stp _ w10 := ⟨hb⟩
  clear hb
  go_wp2
  go_ret
  exact ⟨rfl, blw⟩
set_option maxRecDepth 100000 in
set_option maxHeartbeats 4000000 in
theorem packetEndsN (x : Pk) (HA : Option Addr) (hcp : Nat) (BA : Option Addr) (bcp : Nat) (PA : Option Addr) (pcp : Nat) (cut mo : Int) (w : World) (h : PkIn w x HA BA PA) (hh : longB x = false) (hm : x.mayB = false) :
    Calls Try.prog 7 #[x.at HA hcp BA bcp PA pcp, .int .i64 cut, .int .u8 mo] w (RetB w true) := by
  have TA := hide (fun W => awake6_t W)
  have TL := hide (fun W => long_s x HA hcp BA bcp PA pcp W)
  rw [hh] at TL
  have TE := hide (fun W (h : PkIn W x HA BA PA) => kencode_no x HA hcp BA bcp PA pcp W h hm)
  have HX := hide h
  obtain ⟨k, n, i, hp, hs, bo, an, ai, sq, ps⟩ := x
  simp only [Pk.at] at TE TL ⊢
  clear h hh hm
  go_enter Try.func7, Try.ntmps7
  go_wp2_with fail
  (with_reducible refine (TL.out _).mono ?_)
  rintro e w1 ⟨rfl, hb⟩
  haveI : Stp _ w1 := ⟨hb⟩
  clear hb TL
  go_wp2_with fail
  (with_reducible refine (TE.out _ HX.out.tc).mono ?_)
  rintro e w2 ⟨rfl, hb⟩
  haveI : Stp _ w2 := ⟨hb⟩
  clear hb TE
  go_wp2_with fail
  (with_reducible refine (TA.out _).mono ?_)
  rintro e w6 ⟨rfl, hb⟩
  haveI : Stp _ w6 := ⟨hb⟩
  clear hb
  go_wp2
  go_ret
  exact ⟨rfl, blw⟩
set_option maxRecDepth 100000 in
set_option maxHeartbeats 4000000 in
theorem packetEndsL (x : Pk) (HA : Option Addr) (hcp : Nat) (BA : Option Addr) (bcp : Nat) (PA : Option Addr) (pcp : Nat) (cut mo : Int) (w : World) (hh : longB x = true) :
    Calls Try.prog 7 #[x.at HA hcp BA bcp PA pcp, .int .i64 cut, .int .u8 mo] w (RetB w true) := by
  have TA := hide (fun W => awake6_t W)
  have TL := hide (fun W => long_s x HA hcp BA bcp PA pcp W)
  rw [hh] at TL
  obtain ⟨k, n, i, hp, hs, bo, an, ai, sq, ps⟩ := x
  simp only [Pk.at] at TL ⊢
  clear hh
  go_enter Try.func7, Try.ntmps7
  go_wp2_with fail
  (with_reducible refine (TL.out _).mono ?_)
  rintro e w1 ⟨rfl, hb⟩
  haveI : Stp _ w1 := ⟨hb⟩
  clear hb TL
  go_wp2_with fail
  (with_reducible refine (TA.out _).mono ?_)
  rintro e w6 ⟨rfl, hb⟩
  haveI : Stp _ w6 := ⟨hb⟩
  clear hb
  go_wp2
  go_ret
  exact ⟨rfl, blw⟩
theorem packetEnds_true (x : Pk) (HA : Option Addr) (hcp : Nat) (BA : Option Addr) (bcp : Nat) (PA : Option Addr) (pcp : Nat) (cut mo : Int) (w : World) (h : PkRd w x HA BA PA) (_ : -9223372036854775808 ≤ cut ∧ cut ≤ 9223372036854775807) (hmo : 0 ≤ mo ∧ mo ≤ 255) :
    Calls Try.prog 7 #[x.at HA hcp BA bcp PA pcp, .int .i64 cut, .int .u8 mo] w (RetB w true) := by
  cases hh : longB x
  · cases hm : x.mayB
    · exact packetEndsN x HA hcp BA bcp PA pcp cut mo w (h.ok hh) hh hm
    · exact packetEndsY x HA hcp BA bcp PA pcp cut mo w (h.ok hh) h.f (by omega) hh hm
  · exact packetEndsL x HA hcp BA bcp PA pcp cut mo w hh
end Go.Proofs.Ytmnfiffddeodeaa

/-
  Layer 16: contract: Send, where it takes a text.
-/
import Derived.Test.YtniogmefbjfoaaaGreatSn
namespace Go.Proofs.YtniogmefbjfoaaaGreat
set_option linter.unusedSimpArgs false
set_option linter.unusedVariables false
set_option linter.unusedSectionVars false
open Go.RowKit Go.Maps

theorem snd_app {L : List Nat} {Y w6 X w7 : World} {v v' : Value} (g : Gr L w6 Y) (h7 : X.grownBy w7 v.ownBlock) (hb : Below Y.heap.size Y X) (h7a : v'.ownBlock = v.ownBlock ∨ v'.ownBlock = some X.heap.size) (hL : ∀ i ∈ ownL v, i ∈ L) : Gr L w6 w7 ∧ ∀ i ∈ ownL v', i ∈ ownL v ∨ w6.heap.size ≤ i := by
  have g1 : Gr L w6 X := g.trans (.of hb)
  refine ⟨g1.trans (Gr.grown h7 (fun k hk => hL _ (mem_ownL.2 hk))), fun i hi => ?_⟩
  rw [mem_ownL] at hi ⊢
  rcases h7a with h1 | h1
  · rw [h1] at hi; exact .inl hi
  · rw [h1] at hi; injection hi with hi; exact .inr (by rw [← hi]; exact g1.size)
section
variable {E C : List Nat} {x : Nat} {m : En} {rb fb : Nat} {rp cp : Int → Nat}
def SnR (w : World) (E C : List Nat) (x : Nat) (m : En) (rb fb : Nat) (rp cp : Int → Nat) (now : Int) (body dsts : List Int) (b8 b12 : Nat) (j hv : Value) (W : World) : Prop := ∃ (k : Nat) (fv : Value), k ≤ 10 ∧ j = .int .i64 ((k : Int) + 1) ∧ SnL w E C x rb fb rp cp b8 b12 (m.sends now body dsts k) hv fv W ∧ BoxAt W b12 #[.slice none 0 0, .slice none 0 0, fv] 52 ∧ BoxAt W b8 #[.slice none 0 0, .slice none 0 0, .slice none 0 0] 52
set_option maxRecDepth 100000 in
set_option maxHeartbeats 8000000 in
theorem send_s (w : World) (h : EnM w E C x m rb fb rp cp) (now : Int) (now0 : 0 ≤ now) (now1 : now ≤ 18446744073709551615) (BA : Option Addr) (bc : Nat) (body : List Int) (hB : RO w C 1 BA body.length (bcs body)) (hb0 : 1 ≤ body.length) (hb1 : body.length ≤ 320)
    (DA : Option Addr) (dc : Nat) (dsts : List Int) (hD : RO w C 1 DA dsts.length (ics dsts)) (hdl : dsts.length ≤ 1000000) (hne : 1 ≤ dsts.length) (hR : ∀ n ∈ dsts, m.isR n = true) :
    Calls Tryz.prog 12 #[.pointer (some ⟨x, 0, none⟩), .int .u64 now, .slice BA body.length bc, .slice DA dsts.length dc] w (RetSn w E C x rb fb rp cp ((m.sends now body dsts 10).m, m.sendA body (m.sends now body dsts 10), 0)) := by
  have HE := hide h
  haveI := h.bx
  have hxl := h.bx.lt
  haveI : LtN x w.heap.size := ⟨hxl⟩
  have hmn : ∀ W, Sem.run Tryz.prog (binOp BinOp.eql 61 (.map (some rb)) (.map none)) W = .ok (.bool false) W := fun W => by first | rfl | (simp [go_sem]; done) | kernel_rfl
  have hCC : ∀ j ∈ C, j < w.heap.size := fun j hj => h.ltE j (h.CE j hj)
  have HCC := hide hCC
  have HB := hide hB
  have HD := hide hD
  have HR := hide hR
  have TR : Hid (∀ n ∈ dsts, ∀ W, EnM W E C x m rb fb rp cp → Calls Tryz.prog 34 #[.pointer (some ⟨x, 0, none⟩), .int .i64 n] W fun e w' => e = .returned (.pointer (some ⟨rp n, 0, none⟩)) ∧ W = w') := hide (fun n hn W hW => by
    have h1 := reliable_s W hW n (by have := (isR_iff.1 (hR n hn)).1; unfold En.oth at this; exact ⟨by omega, by omega⟩)
    have e : relV m rp n = .pointer (some ⟨rp n, 0, none⟩) := by unfold relV; rw [hR n hn]; rfl
    rw [e] at h1
    exact h1)
  have c1 : ((body.length : Int) == 0) = false := beq_eq_false_iff_ne.2 (by omega)
  have c2 : decide ((320 : Int) < (body.length : Int)) = false := decide_eq_false (by omega)
  have c3 : ((dsts.length : Int) == 0) = false := beq_eq_false_iff_ne.2 (by omega)
  clear h hCC hB hD hR
  go_enter Tryz.func12, Tryz.ntmps12
  go_wp2_with fail
  go_loopw [43] (fun j wr => ∃ k : Nat, k ≤ dsts.length ∧ j = .int .i64 k ∧ Below w.heap.size w wr ∧ BoxAt wr w.heap.size #[.slice none 0 0, .slice none 0 0, .slice none 0 0] 52) (fun j _ => dsts.length - (intOf j).toNat)
  case atStart => exact ⟨0, Nat.zero_le _, rfl, blw, inferInstance⟩
  case round =>
    obtain ⟨k, hk, rfl, hBw, hb8⟩ := hrel
    haveI : Blw w wr := ⟨hBw⟩
    haveI := hb8
    have hsz := hBw.size
    have hsz1 := hb8.lt
    have HBW := hide hBw
    clear hBw
    by_cases hlt : k < dsts.length
    · have hRd := (HD.out.1.below HBW.out)
      obtain ⟨b, off, n, rfl, hb, hn, g1⟩ := Reads.atI hRd hlt
      haveI : CellAt wr b (off + k) (.int .i64 n) := ⟨Nat.lt_of_lt_of_le hb (by omega), g1⟩
      have hnm : n ∈ dsts := List.mem_of_getElem? hn
      have HNM := hide hnm
      have i0 : (0 : Int) ≤ (k : Int) := by omega
      have i1 : (k : Int) < (dsts.length : Int) := by omega
      clear hRd hb hn g1 hnm
      go_wp2_with (go_at_call 34; (with_reducible refine (TR.out n HNM.out _ (HE.out.below blw)).mono ?_); rintro e w1 ⟨rfl, rfl⟩)
      go_roundw
      case rel => exact ⟨k + 1, by omega, by go_num, blw, inferInstance⟩
      case measure => simp [intOf]; omega
    · have hke : k = dsts.length := by omega
      subst hke
      clear TR
      go_wp2_with fail
      obtain ⟨wd, rfl⟩ : ∃ wd, wd = wr := ⟨wr, rfl⟩
      haveI : LtN w.heap.size (wd.heap.size + 1) := ⟨by omega⟩
      haveI : LtN wd.heap.size (wd.heap.size + 1) := ⟨by omega⟩
      haveI : LtN w.heap.size wd.heap.size := ⟨hsz1⟩
      haveI : LtN x (wd.heap.size + 1) := ⟨by omega⟩
      go_loopw [14, 13] (fun j hv wr2 => SnR w E C x m rb fb rp cp now body dsts w.heap.size wd.heap.size j hv wr2) (fun j _ _ => 11 - (intOf j).toNat)
      case atStart =>
        refine ⟨0, .slice none 0 0, Nat.zero_le _, rfl, ⟨?_, World.ownsRow_nil _ _ _ _, World.ownsRow_nil _ _ _ _, fun i hi => by (have := mem_ownL.1 hi; cases this), .of blw, ⟨Nat.le_refl _, hsz1, by simp⟩⟩, inferInstance, inferInstance⟩
        exact HE.out.more (W := wd.alloc _) blw (fun j hj => by
          rcases List.mem_append.1 hj with hj | hj
          · cases mem_ownL.1 hj
          rcases List.mem_append.1 hj with hj | hj
          · cases mem_ownL.1 hj
          rcases List.mem_cons.1 hj with rfl | hj
          · exact .inr (Nat.le_refl _)
          rcases List.mem_cons.1 hj with rfl | hj
          · exact .inr hsz
          · exact .inl hj) (fun j hj => by simp [HE.out.CE j hj]) (fun j hj => by
          simp only [World.size_alloc]
          rcases List.mem_append.1 hj with hj | hj
          · cases mem_ownL.1 hj
          rcases List.mem_append.1 hj with hj | hj
          · cases mem_ownL.1 hj
          rcases List.mem_cons.1 hj with rfl | hj
          · omega
          rcases List.mem_cons.1 hj with rfl | hj
          · omega
          · have := HE.out.ltE j hj; omega)
      case round =>
        obtain ⟨k, fv, hk10, rfl, hL, hb12, hb8'⟩ := hrel
        obtain ⟨HA, hc, rfl, _, _⟩ := own_slice hL.h
        obtain ⟨FA, fc, rfl, _, _⟩ := own_slice hL.f
        have hsn := sends_n m now body dsts k hk10
        have HSI : Hid ((m.sends now body dsts k).m.n = m.n ∧ (m.sends now body dsts k).m.i = m.i) := hide ⟨hsn.1, hsn.2.1⟩
        have hfl := hsn.2.2.1
        have hhl := hsn.2.2.2
        obtain ⟨s, hs⟩ : ∃ s, s = m.sends now body dsts k := ⟨_, rfl⟩
        rw [← hs] at hL HSI hfl hhl hb12
        try rw [← hs]
        have HST := hide hs
        haveI := hb12
        haveI := hb8'
        haveI bxr := hL.e.bx
        have zl := hL.z
        have zw : w.heap.size ≤ wr.heap.size := hL.g.size
        have HL := hide hL
        have HDR := hide (show Il wr DA dsts from (HD.out.tr (.of hL.g)).1)
        have HBR := hide (HB.out.tr (.of hL.g)).1
        clear hL hs hsn
        by_cases hlt : k < 10
        · have d0 : decide ((k : Int) + 1 ≤ 10) = true := decide_eq_true (by omega)
          by_cases hd : ((k : Int) + 1) ∈ dsts
          · have d1 : decide (((k : Int) + 1) ∈ dsts) = true := decide_eq_true hd
            have HDM := hide hd
            have hos : s.m.oth ((k : Int) + 1) := by
              have h1 := (isR_iff.1 (HR.out _ hd)).1
              unfold En.oth at h1 ⊢
              rw [HSI.out.1]
              exact h1
            haveI := HL.out.e.row hos
            obtain ⟨⟨hok, A, c, ds, hbr, hds, hmap, hcl⟩, hrC⟩ := HL.out.e.ro _ hos
            haveI := hbr
            have hrlt := HCC.out _ hrC
            haveI : LtN (rp ((k : Int) + 1)) w.heap.size := ⟨hrlt⟩
            haveI : LtN (rp ((k : Int) + 1)) wd.heap.size := ⟨by omega⟩
            haveI : LtN (rp ((k : Int) + 1)) (wd.heap.size + 1) := ⟨by omega⟩
            have hl : ds.length = (s.m.rw ((k : Int) + 1)).bx.length := by rw [← hmap, List.length_map]
            have HOS := hide hos
            have HOK := hide hok
            have HRC := hide hrC
            have HDS := hide hds.rd
            have HMAP := hide hmap
            have HCL := hide hcl
            clear hd hos hok hds hmap hcl hrC
            by_cases hf : (s.m.rw ((k : Int) + 1)).full = true
            · have HNX : Hid (m.sends now body dsts (k + 1) = { s with fl := s.fl ++ [(k : Int) + 1] }) := hide (by rw [sends_succ _ _ _ _ hlt, ← HST.out]; unfold send1; rw [if_pos HDM.out, if_pos (show (s.m.rw ((k : Int) + 1)).full = true from hf)])
              have TP : Hid (∀ W, BdsR W A ds → Calls Tryz.prog 35 #[sndV (s.m.rw ((k : Int) + 1)).ba A (s.m.rw ((k : Int) + 1)).bx.length c, .slice BA body.length bc] W fun e w' => e = .returned (.tuple #[sndV 0 none 0 0, .int .i64 4]) ∧ Below W.heap.size W w') := hide (fun W hW => by
                have := push_full (s.m.rw ((k : Int) + 1)).ba A c ds BA body.length bc W hW (by rw [hl]; exact HOK.out.bl) HOK.out.b0 (by rw [hl]; exact HOK.out.bm) (fun d hd => HOK.out.bb _ (by rw [← HMAP.out]; exact List.mem_map_of_mem hd)) hb0 hb1 (by rw [hl]; exact hf)
                rw [hl] at this
                exact this)
              clear hf
              go_wp2_with first
                | (go_at_call 32; (with_reducible refine (containsI_b DA dc dsts ((k : Int) + 1) _ (HDR.out.step blw) hdl).mono ?_); rintro e w5 ⟨rfl, hb5⟩; haveI : Stp _ w5 := ⟨hb5⟩; clear hb5)
                | (go_at_call 35; (with_reducible refine (TP.out _ (HDS.out.step blw)).mono ?_); rintro e w6 ⟨rfl, hb6⟩; haveI : Stp _ w6 := ⟨hb6⟩; have zw6 : wd.heap.size + 1 ≤ w6.heap.size := Nat.le_trans zl.2.2 (Blw.size (a := wr) inferInstance); clear hb6)
                | (at_builtin; refine wpList_append_x Tryz.okI rfl (.tmp 79) (.tmp 81) rfl (wd.heap.size + 1) (.slice FA s.fl.length fc) s.fl.length (ics s.fl) 1 (ics [(k : Int) + 1]) ?_ ?_ ?_ ?_ ?_ ?_ ?_ ?_; go_must ((focus (first | rfl | (simp [Act.eval, Act.put]; done))); (focus (exact own_tc HL.out.f)); (focus (refine ⟨_, _, rfl, ?_⟩; exact reads_i1y _ _ _)); (focus (exact ics_one _)); (focus (unfold maxLen; omega)); (focus omega); (focus (first | omega | (simp; done) | (simp; omega) | exact blw.size | exact BoxAt.lt (n := w.heap.size) inferInstance)); intro v7 w7 ho7 hg7 ha7; obtain ⟨A7, c7, rfl, _, _⟩ := own_slice ho7; haveI : StpB (wd.heap.size + 1) _ w7 := ⟨grown_belowT hg7 (Nat.le_trans zw6 (Blw.size (a := w6) inferInstance)) (fun q hq => (HL.out.f.lt q hq).1)⟩; have O7 := hide ho7; have HG7 := hide hg7; have HA7 := hide ha7; clear ho7 hg7 ha7))
              go_roundw
              case rel =>
                have f1 := hide (HL.out.full HCC.out (by exact blw) ((k : Int) + 1) O7.out HG7.out HA7.out (Gr.set (m := wd.heap.size) _ 2 (.slice A7 (s.fl.length + 1) c7) (List.mem_singleton.2 rfl)))
                exact ⟨k + 1, _, by omega, by go_num, by rw [HNX.out]; exact f1.out, inferInstance, inferInstance⟩
              case measure => simp [intOf]; omega
            · have hfl' : (s.m.rw ((k : Int) + 1)).bx.length < 48 ∧ (s.m.rw ((k : Int) + 1)).ba + (s.m.rw ((k : Int) + 1)).bx.length < 34359738367 := by
                have h1 : (s.m.rw ((k : Int) + 1)).full = false := by simpa using hf
                unfold Rw.full at h1
                rw [Bool.or_eq_false_iff, decide_eq_false_iff_not, decide_eq_false_iff_not] at h1
                omega
              obtain ⟨L, hLe⟩ : ∃ L, L = (s.m.rw ((k : Int) + 1)).bx ++ [body] := ⟨_, rfl⟩
              have hLl : L.length = (s.m.rw ((k : Int) + 1)).bx.length + 1 := by rw [hLe]; simp
              have hLb : ∀ b ∈ L, 1 ≤ b.length ∧ b.length ≤ 320 := fun b hb => by
                rw [hLe, List.mem_append] at hb
                rcases hb with hb | hb
                · exact HOK.out.bb b hb
                · rw [List.mem_singleton] at hb; subst hb; exact ⟨hb0, hb1⟩
              have hba0 := HOK.out.b0
              have hwq : IntKind.u64.wrap ((s.m.rw ((k : Int) + 1)).ba + (L.length : Int)) = (s.m.rw ((k : Int) + 1)).ba + L.length := IntWalk.u64_in _ (by omega)
              have hwl : IntKind.u64.wrap (L.length : Int) = (L.length : Int) := IntWalk.u64_in _ (by omega)
              have TP : Hid (∀ W, BdsR W A ds → Reads W W.heap.size 1 BA body.length (bcs body) → Calls Tryz.prog 35 #[sndV (s.m.rw ((k : Int) + 1)).ba A (s.m.rw ((k : Int) + 1)).bx.length c, .slice BA body.length bc] W (RetPush W (s.m.rw ((k : Int) + 1)).ba L)) := hide (fun W hW hBW => by
                have := push_s (s.m.rw ((k : Int) + 1)).ba A c ds BA body bc W hW (by rw [hl]; exact hfl'.1) HOK.out.b0 (by rw [hl]; exact hfl'.2) (fun d hd => HOK.out.bb _ (by rw [← HMAP.out]; exact List.mem_map_of_mem hd)) hBW hb0 hb1
                rw [hl, HMAP.out, ← hLe] at this
                exact this)
              have HNX : Hid (m.sends now body dsts (k + 1) = ⟨s.m.put ((k : Int) + 1) ⟨(s.m.rw ((k : Int) + 1)).cn, (s.m.rw ((k : Int) + 1)).rl, (s.m.rw ((k : Int) + 1)).ba, L, (s.m.rw ((k : Int) + 1)).ak, if L.length = 1 then now else (s.m.rw ((k : Int) + 1)).st⟩, s.fl, if L.length ≤ 8 then s.hs ++ [⟨(k : Int) + 1, (s.m.rw ((k : Int) + 1)).cn, (s.m.rw ((k : Int) + 1)).ba + L.length, 0⟩] else s.hs⟩) := hide (by
                rw [sends_succ _ _ _ _ hlt, ← HST.out]
                unfold send1
                rw [if_pos HDM.out, if_neg (show ¬ (s.m.rw ((k : Int) + 1)).full = true from hf), hLl]
                unfold Rw.push
                rw [← hLe]
                have e0 : ((s.m.rw ((k : Int) + 1)).bx.length = 0) = ((s.m.rw ((k : Int) + 1)).bx.length + 1 = 1) := propext (by omega)
                simp only [e0])
              have HOK2 : Hid (∀ st : Int, 0 ≤ st → st ≤ 18446744073709551615 → RwOk ⟨(s.m.rw ((k : Int) + 1)).cn, (s.m.rw ((k : Int) + 1)).rl, (s.m.rw ((k : Int) + 1)).ba, L, (s.m.rw ((k : Int) + 1)).ak, st⟩) := hide (fun st g0 g1 => ⟨by simp only; omega, HOK.out.b0, by simp only; omega, hLb, g0, g1⟩)
              have st0 := HOK.out.s0
              have st1 := HOK.out.s1
              have HLE := hide hLe
              have hL9 : L.length ≤ 48 := by omega
              have HLL := hide hLl
              clear hf hLe hLb hLl
              obtain ⟨L8, hL8⟩ : ∃ b, b = decide ((L.length : Int) ≤ 8) := ⟨_, rfl⟩
              go_upto_region 24 with first
                | (go_at_call 32; (with_reducible refine (containsI_b DA dc dsts ((k : Int) + 1) _ (HDR.out.step blw) hdl).mono ?_); rintro e w5 ⟨rfl, hb5⟩; haveI : Stp _ w5 := ⟨hb5⟩; clear hb5)
                | (go_at_call 35; (with_reducible refine (TP.out _ (HDS.out.step blw) ((HBR.out.below blw).more (Blw.size inferInstance))).mono ?_); rintro e w6 ⟨A6, c6, ds6, rfl, hm6, hN6, hb6, hc6⟩; have hB6 : wr.heap.size ≤ w5.heap.size := Blw.size (a := wr) inferInstance; haveI : Stp _ w6 := ⟨hb6⟩; have zw6 : wd.heap.size + 1 ≤ w6.heap.size := Nat.le_trans zl.2.2 (Blw.size (a := wr) inferInstance); have hBW6 : Below wr.heap.size wr w6 := blw; have HM6 := hide hm6; have HN6 := hide hN6; have HB6 := hide hB6; have HBW6 := hide hBW6; have HC6 := hide hc6; clear hb6 hm6 hN6 hB6 hBW6 hc6)
              have HG3 : Hid (Gr (rp ((k : Int) + 1) :: ownL (.slice HA s.hs.length hc)) w6 (((w6.setCell ⟨rp ((k : Int) + 1), 2, none⟩ (.int .u64 (s.m.rw ((k : Int) + 1)).ba)).setCell ⟨rp ((k : Int) + 1), 3, none⟩ (.slice A6 L.length c6)).alloc (.cells #[.int .u64 (s.m.rw ((k : Int) + 1)).ba, .slice A6 L.length c6] 68))) := hide (((Gr.set (m := rp ((k : Int) + 1)) _ 2 (.int .u64 (s.m.rw ((k : Int) + 1)).ba) (by simp)).trans (Gr.set (m := rp ((k : Int) + 1)) _ 3 (.slice A6 L.length c6) (by simp))).trans (.of (below_alloc _ _)))
              by_cases h8 : L.length ≤ 8
              · have e8 : decide ((L.length : Int) ≤ 8) = true := decide_eq_true (by omega)
                have H8 := hide h8
                clear h8
                go_upto_region 25 with fail
                go_region_held3 (fun w' => w'.cell? ⟨rp ((k : Int) + 1), 0, none⟩ = some (.int .u64 (s.m.rw ((k : Int) + 1)).cn) ∧ w'.cell? ⟨w6.heap.size, 0, none⟩ = some (.int .u64 (s.m.rw ((k : Int) + 1)).ba) ∧ w'.cell? ⟨w6.heap.size, 1, none⟩ = some (.slice A6 L.length c6)) ((refine ⟨?_, ?_, ?_⟩ <;> (rw [cell?_box]; rfl)))
                  (first
                    | (refine step_append_x Tryz.okHd rfl (.tmp 92) (.tmp 106) rfl (wd.heap.size + 1) (.slice HA s.hs.length hc) s.hs.length (hcs s.hs) 1 (hcs [⟨(k : Int) + 1, (s.m.rw ((k : Int) + 1)).cn, (s.m.rw ((k : Int) + 1)).ba + L.length, 0⟩]) ?_ ?_ ?_ ?_ ?_ ?_ ?_ ?_; go_must ((focus (first | rfl | (simp [Act.eval, Act.put]; done))); (focus (exact own_kp HL.out.h)); (focus (refine ⟨_, _, by first | rfl | (simp [Act.eval, Act.put]; done), ?_⟩; exact reads_hd1x _ _ ⟨(k : Int) + 1, (s.m.rw ((k : Int) + 1)).cn, (s.m.rw ((k : Int) + 1)).ba + L.length, 0⟩)); (focus (exact hc_one _)); (focus (unfold maxLen; omega)); (focus omega); (focus (first | omega | (simp; done) | (simp; omega) | exact blw.size | exact BoxAt.lt (n := w.heap.size) inferInstance)); intro v7 w7 ho7 hg7 ha7; obtain ⟨A7, c7, rfl, _, _⟩ := own_slice ho7; haveI : StpB (wd.heap.size + 1) _ w7 := ⟨grown_belowT hg7 (Nat.le_trans zw6 (by simp [World.setCell]; try omega)) (fun q hq => (HL.out.h.lt q hq).1)⟩; haveI : BoxAt w7 w6.heap.size #[.int .u64 (s.m.rw ((k : Int) + 1)).ba, .slice A6 L.length c6] 68 := ⟨(hg7.block w6.heap.size (BoxAt.lt (n := w6.heap.size) inferInstance) (fun e => by have := HL.out.hlt _ (mem_ownL.2 e.symm); have := HBW6.out.size; omega)).trans BoxAt.eq⟩; have O7 := hide ho7; have HG7 := hide hg7; have HA7 := hide ha7; clear ho7 hg7 ha7))
                    | fail)
                all_goals
                  have HSA := hide (snd_app (v := .slice HA s.hs.length hc) (v' := .slice A7 (s.hs.length + 1) c7) HG3.out HG7.out (by exact blw) HA7.out (fun i hi => List.mem_cons_of_mem _ hi))
                  by_cases h1 : L.length = 1
                  · have e1 : ((L.length : Int) == 1) = true := by rw [h1]; rfl
                    have H1 := hide h1
                    clear h1
                    have HNY := hide (HNX.out.trans (by rw [if_pos H8.out, if_pos H1.out]))
                    go_wp2_with fail
                    go_roundw
                    case rel =>
                      have f1 := hide (HL.out.push HCC.out HOS.out (W3 := w6) HBW6.out HB6.out (A := A6) (c := c6) HN6.out (hv' := (.slice A7 (s.hs.length + 1) c7)) (hs' := s.hs ++ [⟨(k : Int) + 1, (s.m.rw ((k : Int) + 1)).cn, (s.m.rw ((k : Int) + 1)).ba + L.length, 0⟩]) HSA.out.2 (HSA.out.1.trans (Gr.set (m := rp ((k : Int) + 1)) _ 5 (.int .u64 now) (by simp))) (by rw [List.length_append, hcs_app]; exact own_kp O7.out) (r' := ⟨(s.m.rw ((k : Int) + 1)).cn, (s.m.rw ((k : Int) + 1)).rl, (s.m.rw ((k : Int) + 1)).ba, L, (s.m.rw ((k : Int) + 1)).ak, now⟩) (HOK2.out _ now0 now1) inferInstance HM6.out HC6.out)
                      exact ⟨k + 1, _, by omega, by go_num, by rw [HNY.out]; exact f1.out, inferInstance, inferInstance⟩
                    case measure => simp [intOf]; omega
                  · have e1 : ((L.length : Int) == 1) = false := beq_eq_false_iff_ne.2 (by omega)
                    have H1 := hide h1
                    clear h1
                    have HNY := hide (HNX.out.trans (by rw [if_pos H8.out, if_neg H1.out]))
                    go_wp2_with fail
                    go_roundw
                    case rel =>
                      have f1 := hide (HL.out.push HCC.out HOS.out (W3 := w6) HBW6.out HB6.out (A := A6) (c := c6) HN6.out (hv' := (.slice A7 (s.hs.length + 1) c7)) (hs' := s.hs ++ [⟨(k : Int) + 1, (s.m.rw ((k : Int) + 1)).cn, (s.m.rw ((k : Int) + 1)).ba + L.length, 0⟩]) HSA.out.2 HSA.out.1 (by rw [List.length_append, hcs_app]; exact own_kp O7.out) (r' := ⟨(s.m.rw ((k : Int) + 1)).cn, (s.m.rw ((k : Int) + 1)).rl, (s.m.rw ((k : Int) + 1)).ba, L, (s.m.rw ((k : Int) + 1)).ak, (s.m.rw ((k : Int) + 1)).st⟩) (HOK2.out _ st0 st1) inferInstance HM6.out HC6.out)
                      exact ⟨k + 1, _, by omega, by go_num, by rw [HNY.out]; exact f1.out, inferInstance, inferInstance⟩
                    case measure => simp [intOf]; omega
              · have e8 : decide ((L.length : Int) ≤ 8) = false := decide_eq_false (by omega)
                have H8 := hide h8
                clear h8
                have h1 : ¬ L.length = 1 := by have := H8.out; omega
                have e1 : ((L.length : Int) == 1) = false := beq_eq_false_iff_ne.2 (by omega)
                have H1 := hide h1
                clear h1
                have HNY := hide (HNX.out.trans (by rw [if_neg H8.out, if_neg H1.out]))
                go_wp2_with fail
                go_roundw
                case rel =>
                  have f1 := hide (HL.out.push HCC.out HOS.out (W3 := w6) HBW6.out HB6.out (A := A6) (c := c6) HN6.out (hv' := (.slice HA s.hs.length hc)) (hs' := s.hs) (fun i hi => .inl hi) HG3.out (own_kp HL.out.h) (r' := ⟨(s.m.rw ((k : Int) + 1)).cn, (s.m.rw ((k : Int) + 1)).rl, (s.m.rw ((k : Int) + 1)).ba, L, (s.m.rw ((k : Int) + 1)).ak, (s.m.rw ((k : Int) + 1)).st⟩) (HOK2.out _ st0 st1) inferInstance HM6.out HC6.out)
                  exact ⟨k + 1, _, by omega, by go_num, by rw [HNY.out]; exact f1.out, inferInstance, inferInstance⟩
                case measure => simp [intOf]; omega
          · have d1 : decide (((k : Int) + 1) ∈ dsts) = false := decide_eq_false hd
            have HNX : Hid (m.sends now body dsts (k + 1) = s) := hide (by rw [sends_succ _ _ _ _ hlt, ← HST.out]; unfold send1; rw [if_neg hd])
            clear hd
            go_wp2_with first
              | (go_at_call 32; (with_reducible refine (containsI_b DA dc dsts ((k : Int) + 1) _ (HDR.out.step blw) hdl).mono ?_); rintro e w5 ⟨rfl, hb5⟩; haveI : Stp _ w5 := ⟨hb5⟩; clear hb5)
            go_roundw
            case rel => exact ⟨k + 1, _, by omega, by go_num, by rw [HNX.out]; exact HL.out.below blw, inferInstance, inferInstance⟩
            case measure => simp [intOf]; omega
        · have hke : k = 10 := by omega
          subst hke
          have d0 : decide (((10 : Nat) : Int) + 1 ≤ 10) = false := by decide
          have hzwr : wd.heap.size < wr.heap.size ∧ w.heap.size < wr.heap.size := ⟨HL.out.z.2.2, Nat.lt_of_le_of_lt HL.out.z.1 (Nat.lt_trans HL.out.z.2.1 HL.out.z.2.2)⟩
          have HFN : Hid (∀ (W : World) (pv : Value) (ps : List Pm), Gr [wd.heap.size, w.heap.size] wr W → PmG wr.heap.size W pv ps → ps.map Pm.x = (m.sendA body s).ps → RetSn w E C x rb fb rp cp (s.m, m.sendA body s, 0) (.returned (.tuple #[.agg #[pv, .slice none 0 0, .slice FA s.fl.length fc], .int .i64 0])) W) := hide (fun W pv ps hW hp hm => by
            have hD : ∀ i ∈ [wd.heap.size, w.heap.size], i < wd.heap.size + 1 ∧ w.heap.size ≤ i := fun i hi => by
              rcases List.mem_cons.1 hi with rfl | hi
              · omega
              · rw [List.mem_singleton] at hi; subst hi; omega
            refine ⟨_, wr.heap.size, rfl, ⟨_, ps, _, [], _, rfl, hp.lo (by omega), hm, .nil _ _, rfl, own_lo (own_same HL.out.f (fun i hi => hW.blk i (HL.out.f.lt i hi).2 (fun hm => by have := hD i hm; have := (HL.out.f.lt i hi).1; omega))) (by omega), hp.el, fun _ h => by cases h⟩, by omega, HL.out.e.keep ⟨hW.mono' (fun i hi => ?_), fun i hi => ?_⟩ (fun i hi => hW.blk i (HL.out.e.ltE i (HL.out.e.CE i hi)) (fun hm => by have := HCC.out i hi; have := hD i hm; omega)) (fun i hi => List.mem_append_right _ (HE.out.CE i hi)) (fun i hi => ?_), ?_⟩
            · rcases List.mem_cons.1 hi with rfl | hi
              · simp
              · rw [List.mem_singleton] at hi; subst hi; simp
            · rcases List.mem_append.1 hi with h1 | h1
              · exact .inr (mem_rgB.1 h1).1
              · exact .inl (by simp [h1])
            · rcases List.mem_append.1 hi with h1 | h1
              · exact (mem_rgB.1 h1).2
              · exact Nat.lt_of_lt_of_le (HE.out.ltE i h1) (Nat.le_trans (by omega) hW.size)
            · exact ((HL.out.g.mono' (D := C ++ [wd.heap.size, w.heap.size]) (fun i hi => List.mem_append_left _ hi)).trans (hW.mono' (fun i hi => List.mem_append_right _ hi))).less (fun i hi => by
                rcases List.mem_append.1 hi with hi | hi
                · exact .inl hi
                · exact .inr (hD i hi).2))
          by_cases hh : s.hs = []
          · have e0 : decide ((0 : Int) < (s.hs.length : Int)) = false := decide_eq_false (by rw [hh]; simp)
            have e0n : decide (0 < s.hs.length) = false := decide_eq_false (by rw [hh]; simp)
            have e0m : (0 < s.hs.length) = False := eq_false (by rw [hh]; simp)
            have HA0 : Hid ((m.sendA body s).ps = []) := hide (by unfold En.sendA; rw [if_pos hh])
            clear hh
            go_wp2_with fail
            refine bodyPost_ret (v := .tuple #[.agg #[.slice none 0 0, .slice none 0 0, .slice FA s.fl.length fc], .int .i64 0]) (by simp [results, Tryz.results12, go_sem]) rfl ?_
            rw [← HST.out]
            exact HFN.out _ _ [] (((Gr.set (m := w.heap.size) _ 0 _ (by simp)).trans (Gr.set (m := w.heap.size) _ 1 _ (by simp))).trans (Gr.set (m := w.heap.size) _ 2 _ (by simp))) (.nil _ _) HA0.out.symm
          · have e0 : decide ((0 : Int) < (s.hs.length : Int)) = true := decide_eq_true (by have := List.length_pos_iff.2 hh; omega)
            have e0n : decide (0 < s.hs.length) = true := decide_eq_true (by have := List.length_pos_iff.2 hh; omega)
            have e0m : (0 < s.hs.length) = True := eq_true (by have := List.length_pos_iff.2 hh; omega)
            have HA0 : Hid ((m.sendA body s).ps = [m.data body s.hs]) := hide (by unfold En.sendA; rw [if_neg hh])
            clear hh
            go_upto_region 29 with fail
            refine wp_region_held_drew (S := fun _ => True) (by kernel_rfl) trivial (fun hS => ?_)
            refine wpAnyH_take (i := 0) (v := .pointer (some ⟨wd.heap.size, 0, none⟩)) rfl (by kernel_rfl) (by kernel_rfl) (by kernel_rfl) (fun _ _ _ h => h) (Or.inl ⟨by rfl, ?_⟩) hS ?_
            · intro w' hSw
              go_simp
            simp only [Act.put, List.setIfInBounds_toArray, List.set_cons_zero, List.set_cons_succ]
            refine wpAnyH_take (i := 2) (v := .pointer (some ⟨x, 0, none⟩)) rfl (by kernel_rfl) (by kernel_rfl) (by kernel_rfl) (fun _ _ _ h => h) (Or.inl ⟨by rfl, ?_⟩) hS ?_
            · intro w' hSw
              go_simp
            simp only [Act.put, List.setIfInBounds_toArray, List.set_cons_zero, List.set_cons_succ]
            refine wpAnyH_take (i := 3) (v := .slice BA body.length bc) rfl (by kernel_rfl) (by kernel_rfl) (by kernel_rfl) (fun _ _ _ h => h) (Or.inl ⟨by rfl, ?_⟩) hS ?_
            · intro w' hSw
              go_simp
            simp only [Act.put, List.setIfInBounds_toArray, List.set_cons_zero, List.set_cons_succ]
            refine wpAnyH_take (i := 4) (v := .slice HA s.hs.length hc) rfl (by kernel_rfl) (by kernel_rfl) (by kernel_rfl) (fun _ _ _ h => h) (Or.inl ⟨by rfl, ?_⟩) hS ?_
            · intro w' hSw
              go_simp
            simp only [Act.put, List.setIfInBounds_toArray, List.set_cons_zero, List.set_cons_succ]
            refine wpAnyH_ready (rs := [1, 5]) (by kernel_rfl) (by simp) ?_
            refine AllReadyH.cons rfl (fun K hK => ?_) (AllReadyH.cons rfl (fun K hK => ?_) AllReadyH.nil)
            · go_simp
              refine hK.out _ _ trivial (fun hS => ?_)
              clear hK K
              (try simp only [Act.put, List.setIfInBounds_toArray, List.set_cons_zero, List.set_cons_succ])
              refine wpAnyH_ready (rs := [5]) (by kernel_rfl) (by simp) ?_
              refine AllReadyH.cons rfl (fun K hK => ?_) AllReadyH.nil
              go_simp
              refine (data_s (hs := s.hs) _ s.m.n s.m.i _ _ inferInstance BA bc body HA hc ((HBR.out.below blw).more (Blw.size inferInstance)) (by omega) (Reads.of_own (own_tc HL.out.h)) (by omega)).mono ?_
              rintro e w8 ⟨p8, rfl, hpx, hpp, hb8⟩
              haveI : Stp _ w8 := ⟨hb8⟩
              have zw8 : wd.heap.size + 1 ≤ w8.heap.size := Nat.le_trans zl.2.2 (Blw.size (a := wr) inferInstance)
              have HPX := hide hpx
              have HPP := hide hpp
              refine hK.out _ _ trivial (fun hS => ?_)
              clear hpx hpp hb8
              clear hK K
              (try simp only [Act.put, List.setIfInBounds_toArray, List.set_cons_zero, List.set_cons_succ])
              refine wpAnyH_ready (rs := [6]) (by kernel_rfl) (by simp) ?_
              refine AllReadyH.cons rfl (fun K hK => ?_) AllReadyH.nil
              go_simp
              refine hK.out _ _ trivial (fun hS => ?_)
              clear hK K
              (try simp only [Act.put, List.setIfInBounds_toArray, List.set_cons_zero, List.set_cons_succ])
              refine wpAnyH_ready (rs := [7]) (by kernel_rfl) (by simp) ?_
              refine AllReadyH.cons rfl (fun K hK => ?_) AllReadyH.nil
              (refine step_append_x Tryz.okPm rfl (.tmp 120) (.tmp 125) rfl wr.heap.size (.slice none 0 0) 0 (pms []) 1 (pms [p8]) ?_ ?_ ?_ ?_ ?_ ?_ ?_ ?_; go_must ((focus (first | rfl | (simp [Act.eval, Act.put]; done))); (focus (exact World.ownsRow_nil _ _ _ _)); (focus (refine ⟨_, _, by first | rfl | (simp [Act.eval, Act.put]; done), ?_⟩; exact reads_pm1x _ _ p8)); (focus (exact pms_one _)); (focus (unfold maxLen; omega)); (focus omega); (focus (first | omega | (simp; done) | (simp; omega) | exact blw.size | exact BoxAt.lt (n := w.heap.size) inferInstance)); intro v9 w9 ho9 hg9 ha9; obtain ⟨A9, c9, rfl, _, _⟩ := own_slice ho9; haveI : Stp _ w9 := ⟨grown_belowT hg9 (Nat.le_refl _) (fun q hq => by cases hq)⟩; have O9 := hide ho9; have HG9 := hide hg9; have HA9 := hide ha9; refine hK.out _ _ trivial (fun hS => ?_); clear ho9 hg9 ha9))
              clear hK K
              (try simp only [Act.put, List.setIfInBounds_toArray, List.set_cons_zero, List.set_cons_succ])
              refine wpAnyH_take (i := 8) (v := .pointer (some ⟨wd.heap.size, 0, none⟩)) rfl (by kernel_rfl) (by kernel_rfl) (by kernel_rfl) (fun _ _ _ h => h) (Or.inl ⟨by rfl, ?_⟩) hS ?_
              · intro w' hSw
                go_simp
              simp only [Act.put, List.setIfInBounds_toArray, List.set_cons_zero, List.set_cons_succ]
              refine wpAnyH_ready (rs := [9]) (by kernel_rfl) (by simp) ?_
              refine AllReadyH.cons rfl (fun K hK => ?_) AllReadyH.nil
              go_simp
              refine hK.out _ _ trivial (fun hS => ?_)
              clear hK K
              (try simp only [Act.put, List.setIfInBounds_toArray, List.set_cons_zero, List.set_cons_succ])
              refine wpAnyH_done (by kernel_rfl) ?_ _
              clear hS
              go_wp2_with fail
              refine bodyPost_ret (v := .tuple #[.agg #[.slice A9 1 c9, .slice none 0 0, .slice FA s.fl.length fc], .int .i64 0]) (by simp [results, Tryz.results12, go_sem]) rfl ?_
              rw [← HST.out]
              have hp8 := hide (PmP.lo (lo := wr.heap.size) HPP.out (Blw.size (a := wr) inferInstance))
              have p9 := hide (PmG.app (ps := []) (PmG.nil _ _) O9.out HG9.out HA9.out (by show PmP _ _ [] p8; exact hp8.out.tr (.bel (by exact blw))))
              have g9 := hide (((Gr.set (C := [wd.heap.size, w.heap.size]) (m := wd.heap.size) w9 0 (.slice A9 1 c9) (by simp)).trans (Gr.set (m := w.heap.size) _ 0 (.slice A9 1 c9) (by simp))).trans ((Gr.set (m := w.heap.size) _ 1 (.slice none 0 0) (by simp)).trans (Gr.set (m := w.heap.size) _ 2 (.slice FA s.fl.length fc) (by simp))))
              refine HFN.out _ _ ([] ++ [p8]) ((Gr.of (by exact blw)).trans g9.out) (p9.out.gr g9.out (fun i hi => ?_)) ?_
              · rcases List.mem_cons.1 hi with rfl | hi
                · omega
                · rw [List.mem_singleton] at hi; subst hi; omega
              · rw [HA0.out]
                simp only [List.nil_append, List.map_cons, List.map_nil, HPX.out]
                unfold En.data
                rw [HSI.out.1, HSI.out.2]
            · go_simp
              refine (data_s (hs := s.hs) _ s.m.n s.m.i _ _ inferInstance BA bc body HA hc ((HBR.out.below blw).more (Blw.size inferInstance)) (by omega) (Reads.of_own (own_tc HL.out.h)) (by omega)).mono ?_
              rintro e w8 ⟨p8, rfl, hpx, hpp, hb8⟩
              haveI : Stp _ w8 := ⟨hb8⟩
              have zw8 : wd.heap.size + 1 ≤ w8.heap.size := Nat.le_trans zl.2.2 (Blw.size (a := wr) inferInstance)
              have HPX := hide hpx
              have HPP := hide hpp
              refine hK.out _ _ trivial (fun hS => ?_)
              clear hpx hpp hb8
              clear hK K
              (try simp only [Act.put, List.setIfInBounds_toArray, List.set_cons_zero, List.set_cons_succ])
              refine wpAnyH_ready (rs := [1, 6]) (by kernel_rfl) (by simp) ?_
              refine AllReadyH.cons rfl (fun K hK => ?_) (AllReadyH.cons rfl (fun K hK => ?_) AllReadyH.nil)
              · go_simp
                refine hK.out _ _ trivial (fun hS => ?_)
                clear hK K
                (try simp only [Act.put, List.setIfInBounds_toArray, List.set_cons_zero, List.set_cons_succ])
                refine wpAnyH_ready (rs := [6]) (by kernel_rfl) (by simp) ?_
                refine AllReadyH.cons rfl (fun K hK => ?_) AllReadyH.nil
                go_simp
                refine hK.out _ _ trivial (fun hS => ?_)
                clear hK K
                (try simp only [Act.put, List.setIfInBounds_toArray, List.set_cons_zero, List.set_cons_succ])
                refine wpAnyH_ready (rs := [7]) (by kernel_rfl) (by simp) ?_
                refine AllReadyH.cons rfl (fun K hK => ?_) AllReadyH.nil
                (refine step_append_x Tryz.okPm rfl (.tmp 120) (.tmp 125) rfl wr.heap.size (.slice none 0 0) 0 (pms []) 1 (pms [p8]) ?_ ?_ ?_ ?_ ?_ ?_ ?_ ?_; go_must ((focus (first | rfl | (simp [Act.eval, Act.put]; done))); (focus (exact World.ownsRow_nil _ _ _ _)); (focus (refine ⟨_, _, by first | rfl | (simp [Act.eval, Act.put]; done), ?_⟩; exact reads_pm1x _ _ p8)); (focus (exact pms_one _)); (focus (unfold maxLen; omega)); (focus omega); (focus (first | omega | (simp; done) | (simp; omega) | exact blw.size | exact BoxAt.lt (n := w.heap.size) inferInstance)); intro v9 w9 ho9 hg9 ha9; obtain ⟨A9, c9, rfl, _, _⟩ := own_slice ho9; haveI : Stp _ w9 := ⟨grown_belowT hg9 (Nat.le_refl _) (fun q hq => by cases hq)⟩; have O9 := hide ho9; have HG9 := hide hg9; have HA9 := hide ha9; refine hK.out _ _ trivial (fun hS => ?_); clear ho9 hg9 ha9))
                clear hK K
                (try simp only [Act.put, List.setIfInBounds_toArray, List.set_cons_zero, List.set_cons_succ])
                refine wpAnyH_take (i := 8) (v := .pointer (some ⟨wd.heap.size, 0, none⟩)) rfl (by kernel_rfl) (by kernel_rfl) (by kernel_rfl) (fun _ _ _ h => h) (Or.inl ⟨by rfl, ?_⟩) hS ?_
                · intro w' hSw
                  go_simp
                simp only [Act.put, List.setIfInBounds_toArray, List.set_cons_zero, List.set_cons_succ]
                refine wpAnyH_ready (rs := [9]) (by kernel_rfl) (by simp) ?_
                refine AllReadyH.cons rfl (fun K hK => ?_) AllReadyH.nil
                go_simp
                refine hK.out _ _ trivial (fun hS => ?_)
                clear hK K
                (try simp only [Act.put, List.setIfInBounds_toArray, List.set_cons_zero, List.set_cons_succ])
                refine wpAnyH_done (by kernel_rfl) ?_ _
                clear hS
                go_wp2_with fail
                refine bodyPost_ret (v := .tuple #[.agg #[.slice A9 1 c9, .slice none 0 0, .slice FA s.fl.length fc], .int .i64 0]) (by simp [results, Tryz.results12, go_sem]) rfl ?_
                rw [← HST.out]
                have hp8 := hide (PmP.lo (lo := wr.heap.size) HPP.out (Blw.size (a := wr) inferInstance))
                have p9 := hide (PmG.app (ps := []) (PmG.nil _ _) O9.out HG9.out HA9.out (by show PmP _ _ [] p8; exact hp8.out.tr (.bel (by exact blw))))
                have g9 := hide (((Gr.set (C := [wd.heap.size, w.heap.size]) (m := wd.heap.size) w9 0 (.slice A9 1 c9) (by simp)).trans (Gr.set (m := w.heap.size) _ 0 (.slice A9 1 c9) (by simp))).trans ((Gr.set (m := w.heap.size) _ 1 (.slice none 0 0) (by simp)).trans (Gr.set (m := w.heap.size) _ 2 (.slice FA s.fl.length fc) (by simp))))
                refine HFN.out _ _ ([] ++ [p8]) ((Gr.of (by exact blw)).trans g9.out) (p9.out.gr g9.out (fun i hi => ?_)) ?_
                · rcases List.mem_cons.1 hi with rfl | hi
                  · omega
                  · rw [List.mem_singleton] at hi; subst hi; omega
                · rw [HA0.out]
                  simp only [List.nil_append, List.map_cons, List.map_nil, HPX.out]
                  unfold En.data
                  rw [HSI.out.1, HSI.out.2]
              · go_simp
                refine hK.out _ _ trivial (fun hS => ?_)
                clear hK K
                (try simp only [Act.put, List.setIfInBounds_toArray, List.set_cons_zero, List.set_cons_succ])
                refine wpAnyH_ready (rs := [1]) (by kernel_rfl) (by simp) ?_
                refine AllReadyH.cons rfl (fun K hK => ?_) AllReadyH.nil
                go_simp
                refine hK.out _ _ trivial (fun hS => ?_)
                clear hK K
                (try simp only [Act.put, List.setIfInBounds_toArray, List.set_cons_zero, List.set_cons_succ])
                refine wpAnyH_ready (rs := [7]) (by kernel_rfl) (by simp) ?_
                refine AllReadyH.cons rfl (fun K hK => ?_) AllReadyH.nil
                (refine step_append_x Tryz.okPm rfl (.tmp 120) (.tmp 125) rfl wr.heap.size (.slice none 0 0) 0 (pms []) 1 (pms [p8]) ?_ ?_ ?_ ?_ ?_ ?_ ?_ ?_; go_must ((focus (first | rfl | (simp [Act.eval, Act.put]; done))); (focus (exact World.ownsRow_nil _ _ _ _)); (focus (refine ⟨_, _, by first | rfl | (simp [Act.eval, Act.put]; done), ?_⟩; exact reads_pm1x _ _ p8)); (focus (exact pms_one _)); (focus (unfold maxLen; omega)); (focus omega); (focus (first | omega | (simp; done) | (simp; omega) | exact blw.size | exact BoxAt.lt (n := w.heap.size) inferInstance)); intro v9 w9 ho9 hg9 ha9; obtain ⟨A9, c9, rfl, _, _⟩ := own_slice ho9; haveI : Stp _ w9 := ⟨grown_belowT hg9 (Nat.le_refl _) (fun q hq => by cases hq)⟩; have O9 := hide ho9; have HG9 := hide hg9; have HA9 := hide ha9; refine hK.out _ _ trivial (fun hS => ?_); clear ho9 hg9 ha9))
                clear hK K
                (try simp only [Act.put, List.setIfInBounds_toArray, List.set_cons_zero, List.set_cons_succ])
                refine wpAnyH_take (i := 8) (v := .pointer (some ⟨wd.heap.size, 0, none⟩)) rfl (by kernel_rfl) (by kernel_rfl) (by kernel_rfl) (fun _ _ _ h => h) (Or.inl ⟨by rfl, ?_⟩) hS ?_
                · intro w' hSw
                  go_simp
                simp only [Act.put, List.setIfInBounds_toArray, List.set_cons_zero, List.set_cons_succ]
                refine wpAnyH_ready (rs := [9]) (by kernel_rfl) (by simp) ?_
                refine AllReadyH.cons rfl (fun K hK => ?_) AllReadyH.nil
                go_simp
                refine hK.out _ _ trivial (fun hS => ?_)
                clear hK K
                (try simp only [Act.put, List.setIfInBounds_toArray, List.set_cons_zero, List.set_cons_succ])
                refine wpAnyH_done (by kernel_rfl) ?_ _
                clear hS
                go_wp2_with fail
                refine bodyPost_ret (v := .tuple #[.agg #[.slice A9 1 c9, .slice none 0 0, .slice FA s.fl.length fc], .int .i64 0]) (by simp [results, Tryz.results12, go_sem]) rfl ?_
                rw [← HST.out]
                have hp8 := hide (PmP.lo (lo := wr.heap.size) HPP.out (Blw.size (a := wr) inferInstance))
                have p9 := hide (PmG.app (ps := []) (PmG.nil _ _) O9.out HG9.out HA9.out (by show PmP _ _ [] p8; exact hp8.out.tr (.bel (by exact blw))))
                have g9 := hide (((Gr.set (C := [wd.heap.size, w.heap.size]) (m := wd.heap.size) w9 0 (.slice A9 1 c9) (by simp)).trans (Gr.set (m := w.heap.size) _ 0 (.slice A9 1 c9) (by simp))).trans ((Gr.set (m := w.heap.size) _ 1 (.slice none 0 0) (by simp)).trans (Gr.set (m := w.heap.size) _ 2 (.slice FA s.fl.length fc) (by simp))))
                refine HFN.out _ _ ([] ++ [p8]) ((Gr.of (by exact blw)).trans g9.out) (p9.out.gr g9.out (fun i hi => ?_)) ?_
                · rcases List.mem_cons.1 hi with rfl | hi
                  · omega
                  · rw [List.mem_singleton] at hi; subst hi; omega
                · rw [HA0.out]
                  simp only [List.nil_append, List.map_cons, List.map_nil, HPX.out]
                  unfold En.data
                  rw [HSI.out.1, HSI.out.2]
end
end Go.Proofs.YtniogmefbjfoaaaGreat

namespace Go.Proofs.YtniogmefbjfoaaaGreat
set_option linter.unusedSimpArgs false
set_option linter.unusedVariables false
set_option linter.unusedSectionVars false
open Go.RowKit Go.Maps

section
variable {E C : List Nat} {x : Nat} {m : En} {rb fb : Nat} {rp cp : Int → Nat}
theorem snd_no {w W : World} (h : EnM w E C x m rb fb rp cp) (hb : Below w.heap.size w W) (e : Int) : RetSn w E C x rb fb rp cp (m, an0, e) (.returned (.tuple #[nilA, .int .i64 e])) W := ⟨_, _, rfl, .nil _ _ _, hb.size, (h.below hb).noB, .of hb⟩
set_option maxRecDepth 100000 in
set_option maxHeartbeats 8000000 in
theorem send_no (w : World) (h : EnM w E C x m rb fb rp cp) (now : Int) (BA : Option Addr) (bc : Nat) (body : List Int) (hbl : body.length ≤ 1000000)
    (DA : Option Addr) (dc : Nat) (dsts : List Int) (hD : Reads w w.heap.size 1 DA dsts.length (ics dsts)) (hdl : dsts.length ≤ 1000000) (hwf : ∀ n ∈ dsts, wfI n) (hno : ¬ m.sendE body dsts = 0) :
    Calls Tryz.prog 12 #[.pointer (some ⟨x, 0, none⟩), .int .u64 now, .slice BA body.length bc, .slice DA dsts.length dc] w (RetSn w E C x rb fb rp cp (m, an0, m.sendE body dsts)) := by
  have HE := hide h
  haveI := h.bx
  have hxl := h.bx.lt
  haveI : LtN x w.heap.size := ⟨hxl⟩
  have hmn : ∀ W, Sem.run Tryz.prog (binOp BinOp.eql 61 (.map (some rb)) (.map none)) W = .ok (.bool false) W := fun W => by first | rfl | (simp [go_sem]; done) | kernel_rfl
  have HD := hide hD
  have HNO := hide hno
  have HWF := hide hwf
  clear h hD hno hwf
  by_cases g0 : body.length = 0
  · have er : Hid (m.sendE body dsts = 2) := hide (by unfold En.sendE; rw [if_pos (.inl g0)])
    have c1 : ((body.length : Int) == 0) = true := by rw [g0]; rfl
    clear g0
    go_enter Tryz.func12, Tryz.ntmps12
    go_wp2_with fail
    refine bodyPost_ret (v := .tuple #[nilA, .int .i64 2]) (by simp [results, Tryz.results12, go_sem]) rfl ?_
    rw [er.out]
    exact snd_no HE.out blw 2
  have c1 : ((body.length : Int) == 0) = false := beq_eq_false_iff_ne.2 (by omega)
  by_cases g1 : 320 < body.length
  · have er : Hid (m.sendE body dsts = 2) := hide (by unfold En.sendE; rw [if_pos (.inr g1)])
    have c2 : decide ((320 : Int) < (body.length : Int)) = true := decide_eq_true (by omega)
    clear g1
    go_enter Tryz.func12, Tryz.ntmps12
    go_wp2_with fail
    refine bodyPost_ret (v := .tuple #[nilA, .int .i64 2]) (by simp [results, Tryz.results12, go_sem]) rfl ?_
    rw [er.out]
    exact snd_no HE.out blw 2
  have c2 : decide ((320 : Int) < (body.length : Int)) = false := decide_eq_false (by omega)
  have er : Hid (m.sendE body dsts = 5 ∧ (dsts = [] ∨ ¬ ∀ n ∈ dsts, m.isR n = true)) := hide (by
    have h1 := HNO.out
    unfold En.sendE at h1 ⊢
    rw [if_neg (by omega)] at h1 ⊢
    by_cases h2 : dsts = [] ∨ ¬ ∀ n ∈ dsts, m.isR n = true
    · rw [if_pos h2]; exact ⟨rfl, h2⟩
    · rw [if_neg h2] at h1; exact absurd rfl h1)
  clear g0 g1
  by_cases g2 : dsts.length = 0
  · have c3 : ((dsts.length : Int) == 0) = true := by rw [g2]; rfl
    clear g2
    go_enter Tryz.func12, Tryz.ntmps12
    go_wp2_with fail
    refine bodyPost_ret (v := .tuple #[nilA, .int .i64 5]) (by simp [results, Tryz.results12, go_sem]) rfl ?_
    rw [er.out.1]
    exact snd_no HE.out blw 5
  have c3 : ((dsts.length : Int) == 0) = false := beq_eq_false_iff_ne.2 (by omega)
  have HNR : Hid (¬ ∀ n ∈ dsts, m.isR n = true) := hide (by
    rcases er.out.2 with h1 | h1
    · rw [h1] at g2; exact absurd rfl g2
    · exact h1)
  have TR : Hid (∀ n ∈ dsts, ∀ W, EnM W E C x m rb fb rp cp → Calls Tryz.prog 34 #[.pointer (some ⟨x, 0, none⟩), .int .i64 n] W fun e w' => e = .returned (relV m rp n) ∧ W = w') := hide (fun n hn W hW => reliable_s W hW n (HWF.out n hn))
  clear g2
  go_enter Tryz.func12, Tryz.ntmps12
  go_wp2_with fail
  go_loopw [43] (fun j wr => ∃ k : Nat, k ≤ dsts.length ∧ j = .int .i64 k ∧ (∀ n ∈ dsts.take k, m.isR n = true) ∧ Below w.heap.size w wr ∧ BoxAt wr w.heap.size #[.slice none 0 0, .slice none 0 0, .slice none 0 0] 52) (fun j _ => dsts.length - (intOf j).toNat)
  case atStart => exact ⟨0, Nat.zero_le _, rfl, by simp, blw, inferInstance⟩
  case round =>
    obtain ⟨k, hk, rfl, hall, hBw, hb8⟩ := hrel
    haveI : Blw w wr := ⟨hBw⟩
    haveI := hb8
    have hsz := hBw.size
    have hsz1 := hb8.lt
    have HBW := hide hBw
    have HALL := hide hall
    clear hBw hall
    by_cases hlt : k < dsts.length
    · have hRd := (HD.out.below HBW.out)
      obtain ⟨b, off, n, rfl, hb, hn, g1⟩ := Reads.atI hRd hlt
      haveI : CellAt wr b (off + k) (.int .i64 n) := ⟨Nat.lt_of_lt_of_le hb (by omega), g1⟩
      have hnm : n ∈ dsts := List.mem_of_getElem? hn
      have HNM := hide hnm
      have HN := hide hn
      have i0 : (0 : Int) ≤ (k : Int) := by omega
      have i1 : (k : Int) < (dsts.length : Int) := by omega
      have TRn := hide (fun W hW => TR.out n HNM.out W hW)
      clear hRd hb hn g1 hnm
      cases hr : m.isR n with
      | true =>
        have e : Hid (relV m rp n = .pointer (some ⟨rp n, 0, none⟩)) := hide (by unfold relV; rw [hr]; rfl)
        have HIR := hide hr
        rw [e.out] at TRn
        clear e hr
        go_wp2_with (go_at_call 34; (with_reducible refine (TRn.out _ (HE.out.below blw)).mono ?_); rintro e w1 ⟨rfl, rfl⟩)
        go_roundw
        case rel => exact ⟨k + 1, by omega, by go_num, fun y hy => by
          rw [take_succ_of HN.out, List.mem_append, List.mem_singleton] at hy
          rcases hy with hy | rfl
          · exact HALL.out y hy
          · exact HIR.out, blw, inferInstance⟩
        case measure => simp [intOf]; omega
      | false =>
        have e : Hid (relV m rp n = .pointer none) := hide (by unfold relV; rw [hr]; rfl)
        rw [e.out] at TRn
        clear e hr
        go_wp2_with (go_at_call 34; (with_reducible refine (TRn.out _ (HE.out.below blw)).mono ?_); rintro e w1 ⟨rfl, rfl⟩)
        refine bodyPost_ret (v := .tuple #[nilA, .int .i64 5]) (by simp [results, Tryz.results12, go_sem]) rfl ?_
        rw [er.out.1]
        exact snd_no HE.out blw 5
    · exact absurd (fun n hn => HALL.out n (by rw [List.take_of_length_le (by omega)]; exact hn)) HNR.out
/-- Send, of anything -/
theorem send16_s (w : World) (h : EnM w E C x m rb fb rp cp) (now : Int) (now0 : 0 ≤ now) (now1 : now ≤ 18446744073709551615) (BA : Option Addr) (bc : Nat) (body : List Int) (hB : RO w C 1 BA body.length (bcs body)) (hbl : body.length ≤ 1000000)
    (DA : Option Addr) (dc : Nat) (dsts : List Int) (hD : RO w C 1 DA dsts.length (ics dsts)) (hdl : dsts.length ≤ 1000000) (hwf : ∀ n ∈ dsts, wfI n) :
    Calls Tryz.prog 12 #[.pointer (some ⟨x, 0, none⟩), .int .u64 now, .slice BA body.length bc, .slice DA dsts.length dc] w (RetSn w E C x rb fb rp cp (m.send now body dsts)) := by
  unfold En.send
  by_cases hno : m.sendE body dsts = 0
  · rw [if_pos hno]
    have h1 : ¬ (body.length = 0 ∨ 320 < body.length) ∧ ¬ (dsts = [] ∨ ¬ ∀ n ∈ dsts, m.isR n = true) := by
      unfold En.sendE at hno
      by_cases g1 : body.length = 0 ∨ 320 < body.length
      · rw [if_pos g1] at hno; omega
      · rw [if_neg g1] at hno
        refine ⟨g1, fun g2 => ?_⟩
        rw [if_pos g2] at hno
        omega
    refine send_s w h now now0 now1 BA bc body hB (by omega) (by omega) DA dc dsts hD hdl ?_ ?_
    · exact List.length_pos_iff.2 (fun e => h1.2 (.inl e))
    · exact Classical.byContradiction (fun e => h1.2 (.inr e))
  · rw [if_neg hno]
    exact send_no w h now BA bc body hbl DA dc dsts hD.1 hdl hwf hno
end
end Go.Proofs.YtniogmefbjfoaaaGreat

namespace Go.Proofs.YtniogmefbjfoaaaGreat
set_option linter.unusedSimpArgs false
set_option linter.unusedVariables false
set_option linter.unusedSectionVars false
open Go.RowKit Go.Maps

theorem EnO.more {X W : World} {E E' C : List Nat} {x : Nat} {m : En} (h : EnO X E C x m) (hb : Below X.heap.size X W) (hn : ∀ i ∈ E', i ∈ E ∨ X.heap.size ≤ i) (hs : ∀ i ∈ C, i ∈ E') (hl : ∀ i ∈ E', i < W.heap.size) : EnO W E' C x m := by
  obtain ⟨rb, fb, rp, cp, h⟩ := h
  exact ⟨rb, fb, rp, cp, h.more hb hn hs hl⟩
theorem EnO.less {W : World} {E E' C : List Nat} {x : Nat} {m : En} (h : EnO W E C x m) (hs : ∀ i ∈ E', i ∈ E) (hC : ∀ i ∈ C, i ∈ E') : EnO W E' C x m := by
  obtain ⟨rb, fb, rp, cp, h⟩ := h
  exact ⟨rb, fb, rp, cp, h.less hs hC⟩
theorem EnO.ltE {W : World} {E C : List Nat} {x : Nat} {m : En} (h : EnO W E C x m) : ∀ i ∈ E, i < W.heap.size := by
  obtain ⟨rb, fb, rp, cp, h⟩ := h
  exact h.ltE
/-- two ends, and the blocks that each of them writes -/
structure Tw (W : World) (Cx Cy : List Nat) (x y : Nat) (mx my : En) : Prop where
  ex : EnO W (Cx ++ Cy) Cx x mx
  ey : EnO W (Cy ++ Cx) Cy y my
  d : ∀ i ∈ Cx, i ∉ Cy
section
variable {X W : World} {Cx Cy : List Nat} {x y : Nat} {mx my : En}
theorem Tw.swap (h : Tw W Cx Cy x y mx my) : Tw W Cy Cx y x my mx := ⟨h.ey, h.ex, fun i hi hm => h.d i hm hi⟩
theorem Tw.below (h : Tw X Cx Cy x y mx my) (hb : Below X.heap.size X W) : Tw W Cx Cy x y mx my := ⟨h.ex.below hb, h.ey.below hb, h.d⟩
theorem Tw.lx (h : Tw W Cx Cy x y mx my) : ∀ i ∈ Cx, i < W.heap.size := fun i hi => h.ex.ltE i (List.mem_append_left _ hi)
theorem Tw.ly (h : Tw W Cx Cy x y mx my) : ∀ i ∈ Cy, i < W.heap.size := fun i hi => h.ey.ltE i (List.mem_append_left _ hi)
/-- a step of the first -/
theorem Tw.go (h : Tw X Cx Cy x y mx my) {Cx' : List Nat} {mx' : En} (hE : EnO W (Cx' ++ (Cx ++ Cy)) Cx' x mx') (t : Tr Cx Cx' X W) : Tw W Cx' Cy x y mx' my := by
  refine ⟨hE.less (fun i hi => ?_) (fun i hi => List.mem_append_left _ hi), h.ey.other t (fun i hi => ⟨List.mem_append_right _ hi, h.d i hi⟩) (fun i hi => ?_) (fun i hi => List.mem_append_left _ hi) (fun i hi => ?_), fun i hi hm => ?_⟩
  · rcases List.mem_append.1 hi with hi | hi
    · exact List.mem_append_left _ hi
    · exact List.mem_append_right _ (List.mem_append_right _ hi)
  · rcases List.mem_append.1 hi with hi | hi
    · exact .inl (List.mem_append_left _ hi)
    · exact .inr hi
  · rcases List.mem_append.1 hi with hi | hi
    · exact Nat.lt_of_lt_of_le (h.ly i hi) t.g.size
    · exact hE.ltE i (List.mem_append_left _ hi)
  · rcases t.n i hi with h1 | h1
    · exact h.d i h1 hm
    · have := h.ly i hm; omega
/-- two that are made -/
theorem Tw.new (hx : EnO X (Cx ++ []) Cx x mx) (hy : ∀ E0 : List Nat, (∀ j ∈ E0, j < X.heap.size) → EnO W (Cy ++ E0) Cy y my) (hC : ∀ j ∈ Cy, X.heap.size ≤ j) (hb : Below X.heap.size X W) : Tw W Cx Cy x y mx my := by
  have hlx : ∀ i ∈ Cx, i < X.heap.size := fun i hi => hx.ltE i (List.mem_append_left _ hi)
  have h2 := hy Cx hlx
  refine ⟨hx.more hb (fun i hi => ?_) (fun i hi => List.mem_append_left _ hi) (fun i hi => ?_), h2, fun i hi hm => ?_⟩
  · rcases List.mem_append.1 hi with hi | hi
    · exact .inl (by simpa using hi)
    · exact .inr (hC i hi)
  · rcases List.mem_append.1 hi with hi | hi
    · exact Nat.lt_of_lt_of_le (hlx i hi) hb.size
    · exact h2.ltE i (List.mem_append_left _ hi)
  · have := hlx i hi; have := hC i hm; omega
/-- an answer of the first -/
def RetTw (w : World) (Cx Cy : List Nat) (x y : Nat) (mx' my : En) (a : An) (e : Ending) (W' : World) : Prop := ∃ v Cx', e = .returned v ∧ AnsM w.heap.size W' v a ∧ Tw W' Cx' Cy x y mx' my ∧ Tr Cx Cx' w W'
theorem take_o (h : Tw W Cx Cy x y mx my) (now : Int) (now0 : 0 ≤ now) (now1 : now ≤ 18446744073709551615) (p : Pk) (HA : Option Addr) (hcp : Nat) (BA : Option Addr) (bcp : Nat) (PA : Option Addr) (pcp : Nat) (hin : PkIn W p HA BA PA) (hB : RO W Cx 1 BA p.bs.length (bcs p.bs)) :
    Calls Tryz.prog 13 #[.pointer (some ⟨x, 0, none⟩), .int .u64 now, p.at HA hcp BA bcp PA pcp] W (RetTw W Cx Cy x y (mx.take now p).1 my (mx.take now p).2) := by
  obtain ⟨rb, fb, rp, cp, hx⟩ := h.ex
  refine (take16_s W hx now now0 now1 p HA hcp BA bcp PA pcp hin hB).mono ?_
  rintro e W' ⟨v, C', cp', B0, rfl, ha, _, _, hE, ht⟩
  exact ⟨v, C', rfl, ha.m, h.go ⟨rb, fb, rp, cp', hE.offB (fun i hi => List.mem_append_left _ hi)⟩ ht, ht⟩
theorem tick_o (h : Tw W Cx Cy x y mx my) (now : Int) (now0 : 0 ≤ now) (now1 : now ≤ 18446744073709551615) :
    Calls Tryz.prog 14 #[.pointer (some ⟨x, 0, none⟩), .int .u64 now] W fun e W' => ∃ v, e = .returned v ∧ AnsM W.heap.size W' v (mx.tick now).2 ∧ Tw W' Cx Cy x y (mx.tick now).1 my ∧ Gr Cx W W' := by
  obtain ⟨rb, fb, rp, cp, hx⟩ := h.ex
  refine (tick_s W hx now now0 now1).mono ?_
  rintro e W' ⟨v, B0, rfl, ha, _, hE, ht⟩
  exact ⟨v, rfl, ha.m, h.go ⟨rb, fb, rp, cp, (hE.offB hx.CE).self⟩ (.of ht), ht⟩
theorem reliable_o (h : Tw W Cx Cy x y mx my) (A : Option Addr) (c : Nat) (l : List Int) (hl : RO W Cx 1 A l.length (ics l)) (hn : l.length ≤ 1000000) :
    Calls Tryz.prog 11 #[.pointer (some ⟨x, 0, none⟩), .slice A l.length c] W fun e W' => e = .returned (.tuple #[]) ∧ Tw W' Cx Cy x y (mx.reliable l) my ∧ Gr Cx W W' := by
  obtain ⟨rb, fb, rp, cp, hx⟩ := h.ex
  refine (reliable16_s W hx A c l hl hn).mono ?_
  rintro e W' ⟨rfl, hE, ht⟩
  exact ⟨rfl, h.go ⟨rb, fb, rp, cp, hE.self⟩ (.of ht), ht⟩
theorem send_o (h : Tw W Cx Cy x y mx my) (now : Int) (now0 : 0 ≤ now) (now1 : now ≤ 18446744073709551615) (BA : Option Addr) (bc : Nat) (body : List Int) (hB : RO W Cx 1 BA body.length (bcs body)) (hbl : body.length ≤ 1000000)
    (DA : Option Addr) (dc : Nat) (dsts : List Int) (hD : RO W Cx 1 DA dsts.length (ics dsts)) (hdl : dsts.length ≤ 1000000) (hwf : ∀ n ∈ dsts, wfI n) :
    Calls Tryz.prog 12 #[.pointer (some ⟨x, 0, none⟩), .int .u64 now, .slice BA body.length bc, .slice DA dsts.length dc] W fun e W' => ∃ v, e = .returned (.tuple #[v, .int .i64 (mx.send now body dsts).2.2]) ∧ AnsM W.heap.size W' v (mx.send now body dsts).2.1 ∧ Tw W' Cx Cy x y (mx.send now body dsts).1 my ∧ Gr Cx W W' := by
  obtain ⟨rb, fb, rp, cp, hx⟩ := h.ex
  refine (send16_s W hx now now0 now1 BA bc body hB hbl DA dc dsts hD hdl hwf).mono ?_
  rintro e W' ⟨v, B0, rfl, ha, _, hE, ht⟩
  exact ⟨v, rfl, ha.m, h.go ⟨rb, fb, rp, cp, (hE.offB hx.CE).self⟩ (.of ht), ht⟩
theorem waits_o (h : Tw W Cx Cy x y mx my) (n : Int) (hw : wfI n) : Calls Tryz.prog 15 #[.pointer (some ⟨x, 0, none⟩), .int .i64 n] W fun e W' => e = .returned (.int .i64 (mx.waits n)) ∧ W = W' := by
  obtain ⟨rb, fb, rp, cp, hx⟩ := h.ex
  exact waits_s W hx n hw
end
/-! ### what awake says -/
abbrev pkA : Pk := ⟨2, 5, 1, 8, [⟨6, 1, 1, 0⟩, ⟨7, 1, 1, 0⟩], [97], 0, 0, 0, []⟩
abbrev pkB : Pk := ⟨3, 6, 1, 8, [⟨5, 1, 1, 1⟩], [], 0, 0, 0, []⟩
abbrev pkC : Pk := ⟨2, 5, 1, 8, [⟨7, 1, 1, 0⟩], [97], 0, 0, 0, []⟩
def awX : En := (En.new 5 1).reliable [6, 7]
def awS : En × An × Int := awX.send 1 [97] [7, 6, 7]
def awY : En × An := (En.new 6 1).take 1 pkA
def awT : En × An := awS.1.take 1 pkB
def awC : En × An := awT.1.tick 3
def awF : En × An × Int := awC.1.send 3 [99] [8]
theorem aw1 : awS.2.2 = 0 := by kernel_rfl
theorem aw2 : awS.2.1.ps = [pkA] := by kernel_rfl
theorem aw3 : awY.2.ps = [pkB] := by kernel_rfl
theorem aw4 : awY.2.bs = [((5, 1), [97])] := by kernel_rfl
theorem aw5 : awC.2.ps = [pkC] := by kernel_rfl
theorem aw6 : awF.2.2 = 5 := by kernel_rfl
theorem aw7 : awF.1.waits 6 = 0 := by kernel_rfl
theorem aw8 : awF.1.waits 7 = 1 := by kernel_rfl
end Go.Proofs.YtniogmefbjfoaaaGreat

namespace Go.Proofs.YtniogmefbjfoaaaGreat
set_option linter.unusedSimpArgs false
set_option linter.unusedVariables false
set_option linter.unusedSectionVars false
open Go.RowKit Go.Maps

/-- none, or one that New did not make -/
def NoE (W : World) (p : Value) : Prop := p = .pointer none ∨ ∃ x, p = .pointer (some ⟨x, 0, none⟩) ∧ BoxAt W x #[.int .i64 0, .int .u64 0, .map none, .map none] 64
theorem NoE.below {X W : World} {p : Value} (h : NoE X p) (hb : Below X.heap.size X W) : NoE W p := by
  rcases h with h | ⟨x, h1, h2⟩
  · exact .inl h
  · exact .inr ⟨x, h1, ⟨by rw [hb.block x h2.lt]; exact h2.eq⟩⟩
theorem no_reliable (w : World) (p : Value) (h : NoE w p) (A : Option Addr) (n c : Nat) : Calls Tryz.prog 11 #[p, .slice A n c] w fun e w' => e = .returned (.tuple #[]) ∧ Below w.heap.size w w' := by
  rcases h with rfl | ⟨x, rfl, hx⟩
  · go_enter Tryz.func11, Tryz.ntmps11
    go_wp2_with fail
    refine bodyPost_ret (results_none rfl _ _ _) rfl ?_
    exact ⟨rfl, blw⟩
  · haveI := hx
    have hrg := run_range_nilMap (P := Tryz.prog) w 61 3 65 Tryz.underlying61
    have hnx : ∀ ty, (Instr.next (.pointer (some ⟨w.heap.size, 0, none⟩)) false ty).run Tryz.prog (w.alloc (.mapIter none 0 #[] 0)) = _ := fun ty => run_next_nilMap w ty 0 0 #[]
    go_enter Tryz.func11, Tryz.ntmps11
    go_wp2
    refine wp_loop_rounds 1 ?_
    rw [rounds_succ]
    go_wp2
    go_end0
    exact ⟨rfl, blw⟩
theorem no_nodes (w : World) (p : Value) (h : NoE w p) : Calls Tryz.prog 19 #[p] w fun e w' => e = .returned (.slice none 0 0) ∧ Below w.heap.size w w' := by
  rcases h with rfl | ⟨x, rfl, hx⟩
  · go_enter Tryz.func19, Tryz.ntmps19
    go_wp2_with fail
    go_ret
    exact ⟨rfl, blw⟩
  · haveI := hx
    have hrg := run_range_nilMap (P := Tryz.prog) w 61 3 65 Tryz.underlying61
    have hnx : ∀ ty, (Instr.next (.pointer (some ⟨w.heap.size, 0, none⟩)) false ty).run Tryz.prog (w.alloc (.mapIter none 0 #[] 0)) = _ := fun ty => run_next_nilMap w ty 0 0 #[]
    go_enter Tryz.func19, Tryz.ntmps19
    go_wp2
    refine wp_loop_rounds 1 ?_
    rw [rounds_succ]
    go_wp2_with (go_at_call 41; (with_reducible refine (sort_nil _).mono ?_); rintro e w1 ⟨rfl, rfl⟩)
    go_ret
    exact ⟨rfl, blw⟩
set_option maxRecDepth 100000 in
theorem no_send (w : World) (p : Value) (h : NoE w p) (now : Int) (B : Option Addr) (bn bc : Nat) (A : Option Addr) (n c : Nat) : Calls Tryz.prog 12 #[p, .int .u64 now, .slice B bn bc, .slice A n c] w fun e w' => e = .returned (.tuple #[nilA, .int .i64 5]) ∧ Below w.heap.size w w' := by
  have hmn : ∀ W, Sem.run Tryz.prog (binOp BinOp.eql 61 (.map none) (.map none)) W = .ok (.bool true) W := fun W => by first | rfl | (simp [go_sem]; done) | kernel_rfl
  have hun : ∀ b : Bool, (some undef = some (Value.bool b)) = False := fun b => by simp [undef]
  rcases h with rfl | ⟨x, rfl, hx⟩
  · go_enter Tryz.func12, Tryz.ntmps12
    go_wp2_with fail
    refine bodyPost_ret (v := .tuple #[nilA, .int .i64 5]) (by simp [results, Tryz.results12, go_sem]) rfl ?_
    exact ⟨rfl, blw⟩
  · haveI := hx
    go_enter Tryz.func12, Tryz.ntmps12
    go_wp2_with fail
    refine bodyPost_ret (v := .tuple #[nilA, .int .i64 5]) (by simp [results, Tryz.results12, go_sem]) rfl ?_
    exact ⟨rfl, blw⟩
set_option maxRecDepth 100000 in
theorem no_take (w : World) (p : Value) (h : NoE w p) (now : Int) (q : Value) (hq : ∃ (k n i hp : Int) (HA : Option Addr) (hn hcp : Nat) (BA : Option Addr) (bn bcp : Nat) (an ai sq : Int) (PA : Option Addr) (pn pcp : Nat), q = PkV k n i hp HA hn hcp BA bn bcp an ai sq PA pn pcp) : Calls Tryz.prog 13 #[p, .int .u64 now, q] w fun e w' => e = .returned nilA ∧ Below w.heap.size w w' := by
  have hmn : ∀ W, Sem.run Tryz.prog (binOp BinOp.eql 61 (.map none) (.map none)) W = .ok (.bool true) W := fun W => by first | rfl | (simp [go_sem]; done) | kernel_rfl
  have hun : ∀ b : Bool, (some undef = some (Value.bool b)) = False := fun b => by simp [undef]
  obtain ⟨k, n, i, hp, HA, hn, hcp, BA, bn, bcp, an, ai, sq, PA, pn, pcp, rfl⟩ := hq
  rcases h with rfl | ⟨x, rfl, hx⟩
  · go_enter Tryz.func13, Tryz.ntmps13
    go_wp2_with fail
    refine bodyPost_ret (v := nilA) (by simp [results, Tryz.results13, go_sem]) rfl ?_
    exact ⟨rfl, blw⟩
  · haveI := hx
    go_enter Tryz.func13, Tryz.ntmps13
    go_wp2_with fail
    refine bodyPost_ret (v := nilA) (by simp [results, Tryz.results13, go_sem]) rfl ?_
    exact ⟨rfl, blw⟩
theorem no_waits (w : World) (p : Value) (h : NoE w p) : Calls Tryz.prog 15 #[p, .int .i64 1] w fun e w' => e = .returned (.int .i64 0) ∧ Below w.heap.size w w' := by
  have hun : ∀ b : Bool, (some undef = some (Value.bool b)) = False := fun b => by simp [undef]
  have hlk : ∀ W, (Instr.lookup 61 (.map none) (.int .i64 1) false).run Tryz.prog W = .ok (.pointer none) W := fun W => Maps.look_nil (w := W) false Tryz.lawI Tryz.underlying61 (zeroRw W) (keyI (x := 1) ⟨by decide, by decide⟩)
  rcases h with rfl | ⟨x, rfl, hx⟩
  · go_enter Tryz.func15, Tryz.ntmps15
    go_wp2_with fail
    go_ret
    exact ⟨rfl, blw⟩
  · haveI := hx
    go_enter Tryz.func15, Tryz.ntmps15
    go_wp2_with fail
    go_ret
    exact ⟨rfl, blw⟩
theorem no_tick (w : World) (p : Value) (h : NoE w p) (now : Int) : Calls Tryz.prog 14 #[p, .int .u64 now] w fun e w' => e = .returned nilA ∧ Below w.heap.size w w' := by
  have HN := hide h
  have TN := hide (fun W (h : NoE W p) => no_nodes W p h)
  clear h
  go_enter Tryz.func14, Tryz.ntmps14
  go_wp2_with (go_at_call 19; (with_reducible refine (TN.out _ (HN.out.below blw)).mono ?_); rintro e w1 ⟨rfl, hb1⟩; haveI : Stp _ w1 := ⟨hb1⟩; clear hb1)
  refine wp_loop_rounds 1 ?_
  rw [rounds_succ]
  go_wp2_with fail
  refine bodyPost_ret (v := nilA) (by simp [results, Tryz.results14, go_sem]) rfl ?_
  exact ⟨rfl, blw⟩
set_option maxRecDepth 100000 in
set_option maxHeartbeats 4000000 in
theorem same16_nil (w : World) : Calls Tryz.prog 30 #[nilA, nilA] w (RetB w true) := by
  have hun : ∀ b : Bool, (some undef = some (Value.bool b)) = False := fun b => by simp [undef]
  go_enter Tryz.func30, Tryz.ntmps30
  go_wp2_with fail
  refine wp_loop_rounds 1 ?_
  rw [rounds_succ]
  go_wp2_with fail
  refine wp_loop_rounds 1 ?_
  rw [rounds_succ]
  go_wp2_with fail
  refine wp_loop_rounds 1 ?_
  rw [rounds_succ]
  go_wp2_with fail
  go_ret
  exact ⟨rfl, blw⟩
end Go.Proofs.YtniogmefbjfoaaaGreat

/-
  Layer 6: packets are written: contracts: advert, data, ack, Encode.
-/
import Derived.Test.YtggmninbpnolgaaGreatPkE
import Derived.Test.YtggmninbpnolgaaGreatTxt
import Derived.Test.YtggmninbpnolgaaGreatTcL
namespace Go.Proofs.YtggmninbpnolgaaGreat
set_option linter.unusedSimpArgs false
set_option linter.unusedVariables false
set_option linter.unusedSectionVars false
open Go.RowKit

def lsB {α : Type} (f : α → List Int) (l : List α) : List Int := (l.length : Int) :: l.flatMap f
def topB (n i hp : Int) : List Int := procB (n, i) ++ [hp]
def advE (an ai sq : Int) (ps : List Pr) : List Int := procB (an, ai) ++ (uintB sq ++ lsB procB ps)
def datE (n i hp : Int) (hs : List Hd) (bs0 : List Int) : List Int := topB n i hp ++ (lsB hdB hs ++ txtB bs0)
def ackE (n i hp : Int) (hs : List Hd) : List Int := topB n i hp ++ lsB haB hs
theorem topB_len (n i hp : Int) : (topB n i hp).length ≤ 12 := by
  have := procB1_len (n, i); simp only [topB, List.length_append, List.length_singleton]; omega
theorem lsB_len {α : Type} {f : α → List Int} {B : Nat} (hB : ∀ x, (f x).length ≤ B) (l : List α) (hl : l.length ≤ 255) : (lsB f l).length ≤ 255 * B + 1 := by
  have h1 := flat_len hB l
  have h2 := Nat.mul_le_mul_right B hl
  simp only [lsB, List.length_cons]; omega
section
variable (g : Nat) (v : Value) (bs : List Int) (k n i hp : Int) (HA : Option Addr) (hcp : Nat) (hs : List Hd) (BA : Option Addr) (bcp : Nat) (bs0 : List Int) (an ai sq : Int) (PA : Option Addr) (pcp : Nat) (ps : List Pr)
set_option maxRecDepth 100000 in
set_option maxHeartbeats 4000000 in
theorem advF_s (w : World) (h : Wtr w g v bs) (hr : RdW w g v 2 PA ps.length (pcs ps)) (hn : bs.length ≤ 1000) (hl : ps.length ≤ 255) (hai : wfU64 ai) (hsq : wfU64 sq) (hps : ∀ p ∈ ps, wfU64 p.2) :
    Calls Tryz.prog 44 #[.agg #[.pointer (some ⟨g, 0, none⟩)], PkV k n i hp HA hs.length hcp BA bs0.length bcp an ai sq PA ps.length pcp] w (RetWr g v w (bs ++ advE an ai sq ps)) := by
  have TP := hide (fun A W (h : Wtr W g v bs) (hr : RdW W g v 2 A 1 (pcs [(an, ai)])) => kputP g v bs A an ai W h hr (by omega) hai)
  have l1 := procB1_len (an, ai)
  have l2 := uintB_len sq
  have TU := hide (fun v1 W (h : Wtr W g v1 (bs ++ procB (an, ai))) => uint_s g v1 (bs ++ procB (an, ai)) sq W h (by rw [List.length_append]; omega) hsq.1 hsq.2)
  have TL := hide (fun m v2 W (h : Wtr W g v2 (bs ++ procB (an, ai) ++ uintB sq)) (hm : BoxAt W m #[.pointer (some ⟨g, 0, none⟩)] 54) (hmg : NeN m g) (hmo : OffW W v2 m) (hr : RdW W g v2 2 PA ps.length (pcs ps)) => listP_s g m v2 (bs ++ procB (an, ai) ++ uintB sq) PA pcp ps W h hm hmg hmo hr (by simp only [List.length_append]; omega) hl hps)
  have HE := hide (show bs ++ advE an ai sq ps = bs ++ procB (an, ai) ++ uintB sq ++ ((ps.length : Int) :: ps.flatMap procB) by simp [advE, lsB])
  rw [HE.out]
  haveI : Rdw w g v PA ps.length 2 (pcs ps) := ⟨hr⟩
  clear hr hps hai hsq
  haveI : Wr w g v bs := ⟨h⟩
  haveI : VIn w v := vIn h
  haveI : LtN g w.heap.size := ⟨h.lt⟩
  clear h
  go_enter Tryz.func44, Tryz.ntmps44
  go_wp2_with fail
  (with_reducible refine (TP.out _ _ Wr.h (rdw_p1 _ _ _ _ _ _)).mono ?_)
  rintro e w1 ⟨rfl, v1, hw, hs⟩
  haveI : Wr w1 g v1 _ := ⟨hw⟩
  haveI : StpW g _ _ v1 w1 := ⟨hs⟩
  haveI : VIn w1 v1 := vIn hw
  haveI : LtN g w1.heap.size := ⟨hw.lt⟩
  clear hw hs
  go_wp2_with fail
  (with_reducible refine (TU.out _ _ Wr.h).mono ?_)
  rintro e w2 ⟨rfl, v2, hw, hs⟩
  haveI : Wr w2 g v2 _ := ⟨hw⟩
  haveI : StpW g _ _ v2 w2 := ⟨hs⟩
  haveI : VIn w2 v2 := vIn hw
  haveI : LtN g w2.heap.size := ⟨hw.lt⟩
  clear hw hs
  go_wp2_with fail
  (with_reducible refine (TL.out w.heap.size _ _ Wr.h inferInstance inferInstance inferInstance Rdw.h).mono ?_)
  rintro e w3 ⟨rfl, v3, hw, hs⟩
  haveI : Wr w3 g v3 _ := ⟨hw⟩
  haveI : StpW g _ _ v3 w3 := ⟨hs⟩
  haveI : VIn w3 v3 := vIn hw
  haveI : LtN g w3.heap.size := ⟨hw.lt⟩
  clear hw hs
  go_wp2
  go_end0
  exact ⟨rfl, _, Wr.h, Wst.h⟩
set_option maxRecDepth 100000 in
set_option maxHeartbeats 4000000 in
theorem datF_s (w : World) (h : Wtr w g v bs) (hr : RdW w g v 4 HA hs.length (hcs hs)) (hb : RdW w g v 1 BA bs0.length (bcs bs0)) (hbl : bs0.length ≤ 1000) (hok : bOK bs0) (hn : bs.length ≤ 1000) (hl : hs.length ≤ 255) (hi : wfU64 i) (hp0 : 0 ≤ hp) (hp1 : hp ≤ 8) (hhs : ∀ x ∈ hs, HdF x) :
    Calls Tryz.prog 45 #[.agg #[.pointer (some ⟨g, 0, none⟩)], PkV k n i hp HA hs.length hcp BA bs0.length bcp an ai sq PA ps.length pcp] w (RetWr g v w (bs ++ datE n i hp hs bs0)) := by
  have TP := hide (fun W (h : Wtr W g v bs) => top_s g v bs k n i hp HA hcp hs BA bcp bs0 an ai sq PA pcp ps W h (by omega) hi hp0 hp1)
  have l1 := procB1_len (n, i)
  have l3 := flat_len hdB_len hs
  have TL := hide (fun m v2 W (h : Wtr W g v2 (bs ++ procB (n, i) ++ [hp])) (hm : BoxAt W m #[.pointer (some ⟨g, 0, none⟩)] 54) (hmg : NeN m g) (hmo : OffW W v2 m) (hr : RdW W g v2 4 HA hs.length (hcs hs)) => listD_s g m v2 (bs ++ procB (n, i) ++ [hp]) HA hcp hs W h hm hmg hmo hr (by simp only [List.length_append, List.length_singleton]; omega) hl hhs)
  have TT := hide (fun v3 W (h : Wtr W g v3 (bs ++ procB (n, i) ++ [hp] ++ ((hs.length : Int) :: hs.flatMap hdB))) => text_s g v3 (bs ++ procB (n, i) ++ [hp] ++ ((hs.length : Int) :: hs.flatMap hdB)) bs0 W h (by simp only [List.length_append, List.length_singleton, List.length_cons, List.length_nil]; omega) (by omega) hok)
  have HE := hide (show bs ++ datE n i hp hs bs0 = bs ++ procB (n, i) ++ [hp] ++ ((hs.length : Int) :: hs.flatMap hdB) ++ txtB bs0 by simp [datE, topB, lsB])
  haveI : Rdw w g v BA bs0.length 1 (bcs bs0) := ⟨hb⟩
  clear hb hok
  rw [HE.out]
  haveI : Rdw w g v HA hs.length 4 (hcs hs) := ⟨hr⟩
  clear hr hhs hi hp0 hp1
  haveI : Wr w g v bs := ⟨h⟩
  haveI : VIn w v := vIn h
  haveI : LtN g w.heap.size := ⟨h.lt⟩
  clear h
  go_enter Tryz.func45, Tryz.ntmps45
  go_wp2_with fail
  (with_reducible refine (TP.out _ Wr.h).mono ?_)
  rintro e w1 ⟨rfl, v1, hw, hs⟩
  haveI : Wr w1 g v1 _ := ⟨hw⟩
  haveI : StpW g _ _ v1 w1 := ⟨hs⟩
  haveI : VIn w1 v1 := vIn hw
  haveI : LtN g w1.heap.size := ⟨hw.lt⟩
  clear hw hs
  go_wp2_with fail
  (with_reducible refine (TL.out w.heap.size _ _ Wr.h inferInstance inferInstance inferInstance Rdw.h).mono ?_)
  rintro e w2 ⟨rfl, v2, hw, hs⟩
  haveI : Wr w2 g v2 _ := ⟨hw⟩
  haveI : StpW g _ _ v2 w2 := ⟨hs⟩
  haveI : VIn w2 v2 := vIn hw
  haveI : LtN g w2.heap.size := ⟨hw.lt⟩
  clear hw hs
  haveI : RdY w2 BA bs0.length bs0 := ⟨(Rdw.h (W := w2) (g := g) (v := v2) (A := BA) (n := bs0.length)).reads⟩
  go_wp2_with fail
  (with_reducible refine (TT.out _ _ Wr.h).mono ?_)
  rintro e w3 ⟨rfl, v3, hw, hs⟩
  haveI : Wr w3 g v3 _ := ⟨hw⟩
  haveI : StpW g _ _ v3 w3 := ⟨hs⟩
  haveI : VIn w3 v3 := vIn hw
  haveI : LtN g w3.heap.size := ⟨hw.lt⟩
  clear hw hs
  go_wp2
  go_end0
  exact ⟨rfl, _, Wr.h, Wst.h⟩
set_option maxRecDepth 100000 in
set_option maxHeartbeats 4000000 in
theorem ackF_s (w : World) (h : Wtr w g v bs) (hr : RdW w g v 4 HA hs.length (hcs hs)) (hn : bs.length ≤ 1000) (hl : hs.length ≤ 255) (hi : wfU64 i) (hp0 : 0 ≤ hp) (hp1 : hp ≤ 8) (hhs : ∀ x ∈ hs, HdF x) :
    Calls Tryz.prog 46 #[.agg #[.pointer (some ⟨g, 0, none⟩)], PkV k n i hp HA hs.length hcp BA bs0.length bcp an ai sq PA ps.length pcp] w (RetWr g v w (bs ++ ackE n i hp hs)) := by
  have TP := hide (fun W (h : Wtr W g v bs) => top_s g v bs k n i hp HA hcp hs BA bcp bs0 an ai sq PA pcp ps W h (by omega) hi hp0 hp1)
  have l1 := procB1_len (n, i)
  have l3 := flat_len haB_len hs
  have TL := hide (fun m v2 W (h : Wtr W g v2 (bs ++ procB (n, i) ++ [hp])) (hm : BoxAt W m #[.pointer (some ⟨g, 0, none⟩)] 54) (hmg : NeN m g) (hmo : OffW W v2 m) (hr : RdW W g v2 4 HA hs.length (hcs hs)) => listA_s g m v2 (bs ++ procB (n, i) ++ [hp]) HA hcp hs W h hm hmg hmo hr (by simp only [List.length_append, List.length_singleton]; omega) hl hhs)
  have HE := hide (show bs ++ ackE n i hp hs = bs ++ procB (n, i) ++ [hp] ++ ((hs.length : Int) :: hs.flatMap haB) by simp [ackE, topB, lsB])
  rw [HE.out]
  haveI : Rdw w g v HA hs.length 4 (hcs hs) := ⟨hr⟩
  clear hr hhs hi hp0 hp1
  haveI : Wr w g v bs := ⟨h⟩
  haveI : VIn w v := vIn h
  haveI : LtN g w.heap.size := ⟨h.lt⟩
  clear h
  go_enter Tryz.func46, Tryz.ntmps46
  go_wp2_with fail
  (with_reducible refine (TP.out _ Wr.h).mono ?_)
  rintro e w1 ⟨rfl, v1, hw, hs⟩
  haveI : Wr w1 g v1 _ := ⟨hw⟩
  haveI : StpW g _ _ v1 w1 := ⟨hs⟩
  haveI : VIn w1 v1 := vIn hw
  haveI : LtN g w1.heap.size := ⟨hw.lt⟩
  clear hw hs
  go_wp2_with fail
  (with_reducible refine (TL.out w.heap.size _ _ Wr.h inferInstance inferInstance inferInstance Rdw.h).mono ?_)
  rintro e w2 ⟨rfl, v2, hw, hs⟩
  haveI : Wr w2 g v2 _ := ⟨hw⟩
  haveI : StpW g _ _ v2 w2 := ⟨hs⟩
  haveI : VIn w2 v2 := vIn hw
  haveI : LtN g w2.heap.size := ⟨hw.lt⟩
  clear hw hs
  go_wp2
  go_end0
  exact ⟨rfl, _, Wr.h, Wst.h⟩
end
set_option maxRecDepth 100000 in
theorem parts_s (w : World) : Calls Tryz.prog 17 #[] w fun e w' => e = .returned (.agg #[.func (.func 43) #[] #[], .func (.func 44) #[] #[], .func (.func 45) #[] #[], .func (.func 46) #[] #[]]) ∧ Below w.heap.size w w' := by
  go_enter Tryz.func17, Tryz.ntmps17
  go_wp2
  refine bodyPost_ret (v := .agg #[.func (.func 43) #[] #[], .func (.func 44) #[] #[], .func (.func 45) #[] #[], .func (.func 46) #[] #[]]) (by simp [results, Tryz.results17, go_sem]) rfl ?_
  exact ⟨rfl, blw⟩
def RetKE (w : World) (bs : List Int) (e : Ending) (w' : World) : Prop := ∃ v, e = .returned (.tuple #[v, .int .i64 0]) ∧ OwnB w' w.heap.size v bs ∧ Below w.heap.size w w'
theorem wtr_new (w : World) : Wtr (w.alloc (.cells #[.slice none 0 0] 79)) w.heap.size (.slice none 0 0) [] := ⟨heap_alloc_new _ _, World.ownsRow_nil _ _ _ _⟩
set_option maxRecDepth 100000 in
set_option maxHeartbeats 4000000 in
theorem kenc1 (n i hp : Int) (HA : Option Addr) (hcp : Nat) (hs : List Hd) (BA : Option Addr) (bcp : Nat) (bs0 : List Int) (an ai sq : Int) (PA : Option Addr) (pcp : Nat) (ps : List Pr) (w : World) (h4 : Reads w w.heap.size 4 HA hs.length (hcs hs)) (h1 : Reads w w.heap.size 1 BA bs0.length (bcs bs0)) (h2 : Sl w PA ps) (hll : hs.length ≤ 1000000) (hbl : bs0.length ≤ 1000000) (hpl : ps.length ≤ 1000000) (hl : ps.length ≤ 255) (hai : wfU64 ai) (hsq : wfU64 sq) (hps : ∀ p ∈ ps, wfU64 p.2) (hen : (advE an ai sq ps).length ≤ 900000) (hmay : mayKB 1 n i hp hs bs0 an ai sq ps = true) :
    Calls Tryz.prog 8 #[PkV 1 n i hp HA hs.length hcp BA bs0.length bcp an ai sq PA ps.length pcp] w (RetKE w (1 :: (advE an ai sq ps))) := by
  have TM := hide (fun W (h : Reads W W.heap.size 4 HA hs.length (hcs hs)) (hq : Sl W PA ps) => kmay_s 1 n i hp HA hcp hs BA bcp bs0 an ai sq PA pcp ps W h hq hll hbl hpl)
  rw [hmay] at TM
  have TP := hide (fun W => parts_s W)
  have TF := hide (fun g v W (h : Wtr W g v [1]) (hr : RdW W g v 2 PA ps.length (pcs ps)) => advF_s g v [1] 1 n i hp HA hcp hs BA bcp bs0 an ai sq PA pcp ps W h hr (by simp) hl hai hsq hps)
  have TN := hide (fun W => newWriter_s W)
  have hix : ∀ W, (Instr.index 51 (.agg #[.func (.func 43) #[] #[], .func (.func 44) #[] #[], .func (.func 45) #[] #[], .func (.func 46) #[] #[]]) (.int .i64 1)).run Tryz.prog W = .ok (.func (.func 44) #[] #[]) W := fun _ => by kernel_rfl
  have TU := hide (fun g v W (h : Wtr W g v []) => u8_s g v [] 1 W h (by simp) (by omega) (by omega))
  have TB := hide (fun g v W (h : Wtr W g v (1 :: (advE an ai sq ps))) => bytes_s g v (1 :: (advE an ai sq ps)) W h (by simp only [List.length_cons]; omega))
  simp only [List.nil_append, List.singleton_append] at TU TF
  generalize advE an ai sq ps = en at TF TB hen ⊢
  have HSP := hide h2
  haveI : Src w HA hs.length 4 (hcs hs) := ⟨h4⟩
  haveI : Src w PA ps.length 2 (pcs ps) := ⟨h2⟩
  haveI : Src w BA bs0.length 1 (bcs bs0) := ⟨h1⟩
  clear h1 h2 h4 hmay
  go_enter Tryz.func8, Tryz.ntmps8
  go_wp2_with fail
  (with_reducible refine (TM.out _ src HSP.out.tc).mono ?_)
  rintro e w1 ⟨rfl, hb⟩
  haveI : Stp _ w1 := ⟨hb⟩
  clear hb TM
  go_wp2_with fail
  (with_reducible refine (TN.out _).mono ?_)
  rintro e wN ⟨rfl, rfl⟩
  have hw0 := wtr_new w1
  haveI : LeN w.heap.size w1.heap.size := ⟨(Blw.h (a := w) (W := w1)).size⟩
  haveI : LtN w.heap.size w1.heap.size := ⟨BoxAt.lt (w := w1) (n := w.heap.size) inferInstance⟩
  haveI : Rdw (w1.alloc (.cells #[.slice none 0 0] 79)) w1.heap.size (.slice none 0 0) HA hs.length 4 (hcs hs) := ⟨RdW.of_reads hw0 ((srcB (w := w)).more LeN.h)⟩
  haveI : Rdw (w1.alloc (.cells #[.slice none 0 0] 79)) w1.heap.size (.slice none 0 0) PA ps.length 2 (pcs ps) := ⟨RdW.of_reads hw0 ((srcB (w := w)).more LeN.h)⟩
  haveI : Rdw (w1.alloc (.cells #[.slice none 0 0] 79)) w1.heap.size (.slice none 0 0) BA bs0.length 1 (bcs bs0) := ⟨RdW.of_reads hw0 ((srcB (w := w)).more LeN.h)⟩
  haveI : Wr (w1.alloc (.cells #[.slice none 0 0] 79)) w1.heap.size (.slice none 0 0) [] := ⟨hw0⟩
  haveI : VIn (w1.alloc (.cells #[.slice none 0 0] 79)) (.slice none 0 0) := vIn hw0
  haveI : OffW (w1.alloc (.cells #[.slice none 0 0] 79)) (.slice none 0 0) w.heap.size := ⟨fun e => by cases e⟩
  clear hw0 TN
  go_wp2_with fail
  (with_reducible refine (TU.out w1.heap.size _ _ Wr.h).mono ?_)
  rintro e w2 ⟨rfl, v2, hw, hs2⟩
  haveI : Wr w2 w1.heap.size v2 _ := ⟨hw⟩
  haveI : StpW w1.heap.size _ _ v2 w2 := ⟨hs2⟩
  haveI : VIn w2 v2 := vIn hw
  haveI : LtN w1.heap.size w2.heap.size := ⟨hw.lt⟩
  clear hw hs2 TU
  go_wp2_with fail
  go_region_held3 (fun w' => w'.cell? ⟨w.heap.size, 0, none⟩ = some (.int .i64 1) ∧ w'.cell? ⟨w.heap.size, 1, none⟩ = some (.int .i64 n) ∧ w'.cell? ⟨w.heap.size, 2, none⟩ = some (.int .u64 i) ∧ w'.cell? ⟨w.heap.size, 3, none⟩ = some (.int .i64 hp) ∧ w'.cell? ⟨w.heap.size, 4, none⟩ = some (.slice HA hs.length hcp) ∧ w'.cell? ⟨w.heap.size, 5, none⟩ = some (.slice BA bs0.length bcp) ∧ w'.cell? ⟨w.heap.size, 6, none⟩ = some (.int .i64 an) ∧ w'.cell? ⟨w.heap.size, 7, none⟩ = some (.int .u64 ai) ∧ w'.cell? ⟨w.heap.size, 8, none⟩ = some (.int .u64 sq) ∧ w'.cell? ⟨w.heap.size, 9, none⟩ = some (.slice PA ps.length pcp)) ((refine ⟨?_, ?_, ?_, ?_, ?_, ?_, ?_, ?_, ?_, ?_⟩ <;> (rw [cell?_box]; rfl)))
    (first
      | (go_at_call 17; (with_reducible refine (TP.out _).mono ?_); rintro e w3 ⟨rfl, hb⟩; haveI : Stp _ w3 := ⟨hb⟩; clear hb)
      | (go_at_call 44; (with_reducible refine (TF.out w1.heap.size _ _ Wr.h Rdw.h).mono ?_); rintro e w4 ⟨rfl, v4, hw, hs4⟩; haveI : Wr w4 w1.heap.size v4 _ := ⟨hw⟩; haveI : StpW w1.heap.size _ _ v4 w4 := ⟨hs4⟩; haveI : VIn w4 v4 := vIn hw; clear hw hs4)
      | fail)
  all_goals
    go_wp2_with fail
    (with_reducible refine (TB.out w1.heap.size _ _ Wr.h).mono ?_)
    rintro e w5 ⟨v5, rfl, ho, hb⟩
    haveI : Stp _ w5 := ⟨hb⟩
    obtain ⟨A5, c5, rfl, _, _⟩ := own_slice ho
    have HO := hide (own_base ho (Blw.h (a := w) (W := w4)).size)
    clear ho hb TB
    go_wp2
    go_ret2
    exact ⟨_, rfl, HO.out, blw⟩
set_option maxRecDepth 100000 in
set_option maxHeartbeats 4000000 in
theorem kenc2 (n i hp : Int) (HA : Option Addr) (hcp : Nat) (hs : List Hd) (BA : Option Addr) (bcp : Nat) (bs0 : List Int) (an ai sq : Int) (PA : Option Addr) (pcp : Nat) (ps : List Pr) (w : World) (h4 : Reads w w.heap.size 4 HA hs.length (hcs hs)) (h1 : Reads w w.heap.size 1 BA bs0.length (bcs bs0)) (h2 : Sl w PA ps) (hll : hs.length ≤ 1000000) (hbl : bs0.length ≤ 1000000) (hpl : ps.length ≤ 1000000) (hl : hs.length ≤ 255) (hi : wfU64 i) (hp0 : 0 ≤ hp) (hp1 : hp ≤ 8) (hhs : ∀ x ∈ hs, HdF x) (hbl2 : bs0.length ≤ 1000) (hok : bOK bs0) (hen : (datE n i hp hs bs0).length ≤ 900000) (hmay : mayKB 2 n i hp hs bs0 an ai sq ps = true) :
    Calls Tryz.prog 8 #[PkV 2 n i hp HA hs.length hcp BA bs0.length bcp an ai sq PA ps.length pcp] w (RetKE w (2 :: (datE n i hp hs bs0))) := by
  have TM := hide (fun W (h : Reads W W.heap.size 4 HA hs.length (hcs hs)) (hq : Sl W PA ps) => kmay_s 2 n i hp HA hcp hs BA bcp bs0 an ai sq PA pcp ps W h hq hll hbl hpl)
  rw [hmay] at TM
  have TP := hide (fun W => parts_s W)
  have TF := hide (fun g v W (h : Wtr W g v [2]) (hr : RdW W g v 4 HA hs.length (hcs hs)) (hb : RdW W g v 1 BA bs0.length (bcs bs0)) => datF_s g v [2] 2 n i hp HA hcp hs BA bcp bs0 an ai sq PA pcp ps W h hr hb hbl2 hok (by simp) hl hi hp0 hp1 hhs)
  have TN := hide (fun W => newWriter_s W)
  have hix : ∀ W, (Instr.index 51 (.agg #[.func (.func 43) #[] #[], .func (.func 44) #[] #[], .func (.func 45) #[] #[], .func (.func 46) #[] #[]]) (.int .i64 2)).run Tryz.prog W = .ok (.func (.func 45) #[] #[]) W := fun _ => by kernel_rfl
  have TU := hide (fun g v W (h : Wtr W g v []) => u8_s g v [] 2 W h (by simp) (by omega) (by omega))
  have TB := hide (fun g v W (h : Wtr W g v (2 :: (datE n i hp hs bs0))) => bytes_s g v (2 :: (datE n i hp hs bs0)) W h (by simp only [List.length_cons]; omega))
  simp only [List.nil_append, List.singleton_append] at TU TF
  generalize datE n i hp hs bs0 = en at TF TB hen ⊢
  have HSP := hide h2
  haveI : Src w HA hs.length 4 (hcs hs) := ⟨h4⟩
  haveI : Src w PA ps.length 2 (pcs ps) := ⟨h2⟩
  haveI : Src w BA bs0.length 1 (bcs bs0) := ⟨h1⟩
  clear h1 h2 h4 hmay
  go_enter Tryz.func8, Tryz.ntmps8
  go_wp2_with fail
  (with_reducible refine (TM.out _ src HSP.out.tc).mono ?_)
  rintro e w1 ⟨rfl, hb⟩
  haveI : Stp _ w1 := ⟨hb⟩
  clear hb TM
  go_wp2_with fail
  (with_reducible refine (TN.out _).mono ?_)
  rintro e wN ⟨rfl, rfl⟩
  have hw0 := wtr_new w1
  haveI : LeN w.heap.size w1.heap.size := ⟨(Blw.h (a := w) (W := w1)).size⟩
  haveI : LtN w.heap.size w1.heap.size := ⟨BoxAt.lt (w := w1) (n := w.heap.size) inferInstance⟩
  haveI : Rdw (w1.alloc (.cells #[.slice none 0 0] 79)) w1.heap.size (.slice none 0 0) HA hs.length 4 (hcs hs) := ⟨RdW.of_reads hw0 ((srcB (w := w)).more LeN.h)⟩
  haveI : Rdw (w1.alloc (.cells #[.slice none 0 0] 79)) w1.heap.size (.slice none 0 0) PA ps.length 2 (pcs ps) := ⟨RdW.of_reads hw0 ((srcB (w := w)).more LeN.h)⟩
  haveI : Rdw (w1.alloc (.cells #[.slice none 0 0] 79)) w1.heap.size (.slice none 0 0) BA bs0.length 1 (bcs bs0) := ⟨RdW.of_reads hw0 ((srcB (w := w)).more LeN.h)⟩
  haveI : Wr (w1.alloc (.cells #[.slice none 0 0] 79)) w1.heap.size (.slice none 0 0) [] := ⟨hw0⟩
  haveI : VIn (w1.alloc (.cells #[.slice none 0 0] 79)) (.slice none 0 0) := vIn hw0
  haveI : OffW (w1.alloc (.cells #[.slice none 0 0] 79)) (.slice none 0 0) w.heap.size := ⟨fun e => by cases e⟩
  clear hw0 TN
  go_wp2_with fail
  (with_reducible refine (TU.out w1.heap.size _ _ Wr.h).mono ?_)
  rintro e w2 ⟨rfl, v2, hw, hs2⟩
  haveI : Wr w2 w1.heap.size v2 _ := ⟨hw⟩
  haveI : StpW w1.heap.size _ _ v2 w2 := ⟨hs2⟩
  haveI : VIn w2 v2 := vIn hw
  haveI : LtN w1.heap.size w2.heap.size := ⟨hw.lt⟩
  clear hw hs2 TU
  go_wp2_with fail
  go_region_held3 (fun w' => w'.cell? ⟨w.heap.size, 0, none⟩ = some (.int .i64 2) ∧ w'.cell? ⟨w.heap.size, 1, none⟩ = some (.int .i64 n) ∧ w'.cell? ⟨w.heap.size, 2, none⟩ = some (.int .u64 i) ∧ w'.cell? ⟨w.heap.size, 3, none⟩ = some (.int .i64 hp) ∧ w'.cell? ⟨w.heap.size, 4, none⟩ = some (.slice HA hs.length hcp) ∧ w'.cell? ⟨w.heap.size, 5, none⟩ = some (.slice BA bs0.length bcp) ∧ w'.cell? ⟨w.heap.size, 6, none⟩ = some (.int .i64 an) ∧ w'.cell? ⟨w.heap.size, 7, none⟩ = some (.int .u64 ai) ∧ w'.cell? ⟨w.heap.size, 8, none⟩ = some (.int .u64 sq) ∧ w'.cell? ⟨w.heap.size, 9, none⟩ = some (.slice PA ps.length pcp)) ((refine ⟨?_, ?_, ?_, ?_, ?_, ?_, ?_, ?_, ?_, ?_⟩ <;> (rw [cell?_box]; rfl)))
    (first
      | (go_at_call 17; (with_reducible refine (TP.out _).mono ?_); rintro e w3 ⟨rfl, hb⟩; haveI : Stp _ w3 := ⟨hb⟩; clear hb)
      | (go_at_call 45; (with_reducible refine (TF.out w1.heap.size _ _ Wr.h Rdw.h Rdw.h).mono ?_); rintro e w4 ⟨rfl, v4, hw, hs4⟩; haveI : Wr w4 w1.heap.size v4 _ := ⟨hw⟩; haveI : StpW w1.heap.size _ _ v4 w4 := ⟨hs4⟩; haveI : VIn w4 v4 := vIn hw; clear hw hs4)
      | fail)
  all_goals
    go_wp2_with fail
    (with_reducible refine (TB.out w1.heap.size _ _ Wr.h).mono ?_)
    rintro e w5 ⟨v5, rfl, ho, hb⟩
    haveI : Stp _ w5 := ⟨hb⟩
    obtain ⟨A5, c5, rfl, _, _⟩ := own_slice ho
    have HO := hide (own_base ho (Blw.h (a := w) (W := w4)).size)
    clear ho hb TB
    go_wp2
    go_ret2
    exact ⟨_, rfl, HO.out, blw⟩
set_option maxRecDepth 100000 in
set_option maxHeartbeats 4000000 in
theorem kenc3 (n i hp : Int) (HA : Option Addr) (hcp : Nat) (hs : List Hd) (BA : Option Addr) (bcp : Nat) (bs0 : List Int) (an ai sq : Int) (PA : Option Addr) (pcp : Nat) (ps : List Pr) (w : World) (h4 : Reads w w.heap.size 4 HA hs.length (hcs hs)) (h1 : Reads w w.heap.size 1 BA bs0.length (bcs bs0)) (h2 : Sl w PA ps) (hll : hs.length ≤ 1000000) (hbl : bs0.length ≤ 1000000) (hpl : ps.length ≤ 1000000) (hl : hs.length ≤ 255) (hi : wfU64 i) (hp0 : 0 ≤ hp) (hp1 : hp ≤ 8) (hhs : ∀ x ∈ hs, HdF x) (hen : (ackE n i hp hs).length ≤ 900000) (hmay : mayKB 3 n i hp hs bs0 an ai sq ps = true) :
    Calls Tryz.prog 8 #[PkV 3 n i hp HA hs.length hcp BA bs0.length bcp an ai sq PA ps.length pcp] w (RetKE w (3 :: (ackE n i hp hs))) := by
  have TM := hide (fun W (h : Reads W W.heap.size 4 HA hs.length (hcs hs)) (hq : Sl W PA ps) => kmay_s 3 n i hp HA hcp hs BA bcp bs0 an ai sq PA pcp ps W h hq hll hbl hpl)
  rw [hmay] at TM
  have TP := hide (fun W => parts_s W)
  have TF := hide (fun g v W (h : Wtr W g v [3]) (hr : RdW W g v 4 HA hs.length (hcs hs)) => ackF_s g v [3] 3 n i hp HA hcp hs BA bcp bs0 an ai sq PA pcp ps W h hr (by simp) hl hi hp0 hp1 hhs)
  have TN := hide (fun W => newWriter_s W)
  have hix : ∀ W, (Instr.index 51 (.agg #[.func (.func 43) #[] #[], .func (.func 44) #[] #[], .func (.func 45) #[] #[], .func (.func 46) #[] #[]]) (.int .i64 3)).run Tryz.prog W = .ok (.func (.func 46) #[] #[]) W := fun _ => by kernel_rfl
  have TU := hide (fun g v W (h : Wtr W g v []) => u8_s g v [] 3 W h (by simp) (by omega) (by omega))
  have TB := hide (fun g v W (h : Wtr W g v (3 :: (ackE n i hp hs))) => bytes_s g v (3 :: (ackE n i hp hs)) W h (by simp only [List.length_cons]; omega))
  simp only [List.nil_append, List.singleton_append] at TU TF
  generalize ackE n i hp hs = en at TF TB hen ⊢
  have HSP := hide h2
  haveI : Src w HA hs.length 4 (hcs hs) := ⟨h4⟩
  haveI : Src w PA ps.length 2 (pcs ps) := ⟨h2⟩
  haveI : Src w BA bs0.length 1 (bcs bs0) := ⟨h1⟩
  clear h1 h2 h4 hmay
  go_enter Tryz.func8, Tryz.ntmps8
  go_wp2_with fail
  (with_reducible refine (TM.out _ src HSP.out.tc).mono ?_)
  rintro e w1 ⟨rfl, hb⟩
  haveI : Stp _ w1 := ⟨hb⟩
  clear hb TM
  go_wp2_with fail
  (with_reducible refine (TN.out _).mono ?_)
  rintro e wN ⟨rfl, rfl⟩
  have hw0 := wtr_new w1
  haveI : LeN w.heap.size w1.heap.size := ⟨(Blw.h (a := w) (W := w1)).size⟩
  haveI : LtN w.heap.size w1.heap.size := ⟨BoxAt.lt (w := w1) (n := w.heap.size) inferInstance⟩
  haveI : Rdw (w1.alloc (.cells #[.slice none 0 0] 79)) w1.heap.size (.slice none 0 0) HA hs.length 4 (hcs hs) := ⟨RdW.of_reads hw0 ((srcB (w := w)).more LeN.h)⟩
  haveI : Rdw (w1.alloc (.cells #[.slice none 0 0] 79)) w1.heap.size (.slice none 0 0) PA ps.length 2 (pcs ps) := ⟨RdW.of_reads hw0 ((srcB (w := w)).more LeN.h)⟩
  haveI : Rdw (w1.alloc (.cells #[.slice none 0 0] 79)) w1.heap.size (.slice none 0 0) BA bs0.length 1 (bcs bs0) := ⟨RdW.of_reads hw0 ((srcB (w := w)).more LeN.h)⟩
  haveI : Wr (w1.alloc (.cells #[.slice none 0 0] 79)) w1.heap.size (.slice none 0 0) [] := ⟨hw0⟩
  haveI : VIn (w1.alloc (.cells #[.slice none 0 0] 79)) (.slice none 0 0) := vIn hw0
  haveI : OffW (w1.alloc (.cells #[.slice none 0 0] 79)) (.slice none 0 0) w.heap.size := ⟨fun e => by cases e⟩
  clear hw0 TN
  go_wp2_with fail
  (with_reducible refine (TU.out w1.heap.size _ _ Wr.h).mono ?_)
  rintro e w2 ⟨rfl, v2, hw, hs2⟩
  haveI : Wr w2 w1.heap.size v2 _ := ⟨hw⟩
  haveI : StpW w1.heap.size _ _ v2 w2 := ⟨hs2⟩
  haveI : VIn w2 v2 := vIn hw
  haveI : LtN w1.heap.size w2.heap.size := ⟨hw.lt⟩
  clear hw hs2 TU
  go_wp2_with fail
  go_region_held3 (fun w' => w'.cell? ⟨w.heap.size, 0, none⟩ = some (.int .i64 3) ∧ w'.cell? ⟨w.heap.size, 1, none⟩ = some (.int .i64 n) ∧ w'.cell? ⟨w.heap.size, 2, none⟩ = some (.int .u64 i) ∧ w'.cell? ⟨w.heap.size, 3, none⟩ = some (.int .i64 hp) ∧ w'.cell? ⟨w.heap.size, 4, none⟩ = some (.slice HA hs.length hcp) ∧ w'.cell? ⟨w.heap.size, 5, none⟩ = some (.slice BA bs0.length bcp) ∧ w'.cell? ⟨w.heap.size, 6, none⟩ = some (.int .i64 an) ∧ w'.cell? ⟨w.heap.size, 7, none⟩ = some (.int .u64 ai) ∧ w'.cell? ⟨w.heap.size, 8, none⟩ = some (.int .u64 sq) ∧ w'.cell? ⟨w.heap.size, 9, none⟩ = some (.slice PA ps.length pcp)) ((refine ⟨?_, ?_, ?_, ?_, ?_, ?_, ?_, ?_, ?_, ?_⟩ <;> (rw [cell?_box]; rfl)))
    (first
      | (go_at_call 17; (with_reducible refine (TP.out _).mono ?_); rintro e w3 ⟨rfl, hb⟩; haveI : Stp _ w3 := ⟨hb⟩; clear hb)
      | (go_at_call 46; (with_reducible refine (TF.out w1.heap.size _ _ Wr.h Rdw.h).mono ?_); rintro e w4 ⟨rfl, v4, hw, hs4⟩; haveI : Wr w4 w1.heap.size v4 _ := ⟨hw⟩; haveI : StpW w1.heap.size _ _ v4 w4 := ⟨hs4⟩; haveI : VIn w4 v4 := vIn hw; clear hw hs4)
      | fail)
  all_goals
    go_wp2_with fail
    (with_reducible refine (TB.out w1.heap.size _ _ Wr.h).mono ?_)
    rintro e w5 ⟨v5, rfl, ho, hb⟩
    haveI : Stp _ w5 := ⟨hb⟩
    obtain ⟨A5, c5, rfl, _, _⟩ := own_slice ho
    have HO := hide (own_base ho (Blw.h (a := w) (W := w4)).size)
    clear ho hb TB
    go_wp2
    go_ret2
    exact ⟨_, rfl, HO.out, blw⟩
end Go.Proofs.YtggmninbpnolgaaGreat

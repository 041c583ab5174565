/-
  Layer 8: contract: notice.Encode.
-/
import Derived.Test.YtdmjopokclljlaaGreatNot
import Derived.Test.YtdmjopokclljlaaGreatLVBack
namespace Go.Proofs.YtdmjopokclljlaaGreat
set_option linter.unusedSimpArgs false
set_option linter.unusedVariables false
set_option linter.unusedSectionVars false
open Go.RowKit

/-- a notice's bytes -/
def setBy (l : List Pr) : List Int := (l.length : Int) % 256 :: procsB l
def Nt.enc (x : Nt) : List Int :=
  if x.k = 5 then 5 :: viewB x.vw.r x.vw.n x.vw.i x.vw.ms x.vw.us
  else if x.k = 2 then 2 :: procB (x.n, x.i)
  else if x.k = 4 then 4 :: (procB (x.n, x.i) ++ uintB x.cd ++ setBy x.st)
  else x.k :: (procB (x.n, x.i) ++ (uintB x.rd ++ uintB x.cd) ++ setBy x.st)
abbrev bxN (k n i rd cd : Int) (SA : Option Addr) (sl sc : Nat) (r vn vi : Int) (MA : Option Addr) (ml mc : Nat) (UA : Option Addr) (ul uc : Nat) : Obj := .cells #[.int .i64 k, .int .i64 n, .int .u64 i, .int .u64 rd, .int .u64 cd, .slice SA sl sc, .int .u64 r, .int .i64 vn, .int .u64 vi, .slice MA ml mc, .slice UA ul uc] 32
/-- while it is written -/
structure EN (w : World) (cs : Array Value) (g m : Nat) (v : Value) (bs : List Int) (W : World) : Prop where
  k0 : BoxAt W w.heap.size cs 32
  km : BoxAt W m #[.pointer (some ⟨g, 0, none⟩)] 56
  hw : Wtr W g v bs
  ne : v.ownBlock ≠ some m
  hB : Below w.heap.size w W
  hg : w.heap.size < g
  hm : g < m
theorem EN.below {w W W' : World} {cs : Array Value} {g m : Nat} {v : Value} {bs : List Int} (h : EN w cs g m v bs W) (hb : Below W.heap.size W W') : EN w cs g m v bs W' :=
  ⟨h.k0.step hb, h.km.step hb, h.hw.below hb, h.ne, below_step h.hB hb, h.hg, h.hm⟩
theorem EN.put {w W W' : World} {cs : Array Value} {g m : Nat} {v v' : Value} {bs bs' : List Int} (h : EN w cs g m v bs W) (hw' : Wtr W' g v' bs') (hs : WStep g v W v' W') : EN w cs g m v' bs' W' := by
  have hg := h.hg
  have hm := h.hm
  have hml := h.km.lt
  refine ⟨hs.boxAt h.k0 (by omega) (fun e => by have := (h.hw.own.lt _ e).1; omega), hs.boxAt h.km (by omega) h.ne, hw', ?_, h.hB.trans (hs.to_below h.hw (by omega)), hg, hm⟩
  rcases hs.own with e | ⟨k, hk, e⟩
  · rw [e]; exact h.ne
  · rw [e]; intro e2; injection e2 with e2; omega
theorem EN.rd {w W : World} {cs : Array Value} {g m : Nat} {v : Value} {bs : List Int} (h : EN w cs g m v bs W) {k n : Nat} {A : Option Addr} {xs : List Value} (hr : Reads w w.heap.size k A n xs) : RdW W g v k A n xs :=
  RdW.of_reads h.hw ((hr.below h.hB).more (by have := h.hg; omega))
theorem RdW.lit1 {w : World} {g : Nat} {v : Value} {bs : List Int} (h : Wtr w g v bs) (a : Int) : RdW (w.alloc (.cells #[.int .u64 a] 22)) g v 1 (some ⟨w.heap.size, 0, none⟩) 1 (ucs [a]) :=
  ⟨rfl, fun _ => ⟨_, _, rfl, by simp, by have := h.lt; omega, h.row_lt (Nat.le_refl _), fun j u hu => by
    match j, hu with
    | 0, hu => simp [ucs] at hu; subst hu; simp
    | j + 1, hu => simp [ucs] at hu⟩⟩
theorem RdW.litU2 {w : World} {g : Nat} {v : Value} {bs : List Int} (h : Wtr w g v bs) (a b : Int) : RdW (w.alloc (.cells #[.int .u64 a, .int .u64 b] 22)) g v 1 (some ⟨w.heap.size, 0, none⟩) 2 (ucs [a, b]) :=
  ⟨rfl, fun _ => ⟨_, _, rfl, by simp, by have := h.lt; omega, h.row_lt (Nat.le_refl _), fun j u hu => by
    match j, hu with
    | 0, hu => simp [ucs] at hu; subst hu; simp
    | 1, hu => simp [ucs] at hu; subst hu; simp
    | j + 2, hu => simp [ucs] at hu⟩⟩
theorem putP1_s (g : Nat) (v : Value) (bs : List Int) (A : Option Addr) (n i : Int) (w : World) (h : Wtr w g v bs) (hr : RdW w g v 2 A 1 (pcs [(n, i)])) (hn : bs.length ≤ 500000) (hwf : wfU64 i) :
    Calls Tryz.prog 28 #[.pointer (some ⟨g, 0, none⟩), .slice A 1 1] w (RetWr g v w (bs ++ procB (n, i))) := by
  have := putP_s g v bs A 1 [(n, i)] w h hr (by simp) hn (by simpa using hwf)
  simpa [procsB] using this
theorem putU1_s (g : Nat) (v : Value) (bs : List Int) (A : Option Addr) (a : Int) (w : World) (h : Wtr w g v bs) (hr : RdW w g v 1 A 1 (ucs [a])) (hn : bs.length ≤ 500000) (hwf : wfU64 a) :
    Calls Tryz.prog 29 #[.pointer (some ⟨g, 0, none⟩), .slice A 1 1] w (RetWr g v w (bs ++ uintB a)) := by
  have := putU_s g v bs A 1 [a] w h hr (by simp) hn (by simpa using hwf)
  simpa [uintsB] using this
theorem putU2_s (g : Nat) (v : Value) (bs : List Int) (A : Option Addr) (a b : Int) (w : World) (h : Wtr w g v bs) (hr : RdW w g v 1 A 2 (ucs [a, b])) (hn : bs.length ≤ 500000) (hwf : wfU64 a) (hwg : wfU64 b) :
    Calls Tryz.prog 29 #[.pointer (some ⟨g, 0, none⟩), .slice A 2 2] w (RetWr g v w (bs ++ (uintB a ++ uintB b))) := by
  have := putU_s g v bs A 2 [a, b] w h hr (by simp) hn (by simpa using ⟨hwf, hwg⟩)
  simpa [uintsB] using this
section
variable (k n i rd cd : Int) (SA : Option Addr) (sc : Nat) (st : List Pr) (r vn vi : Int) (MA : Option Addr) (mc : Nat) (ms : List Pr) (UA : Option Addr) (uc : Nat) (us : List Int)
abbrev csN (k n i rd cd : Int) (SA : Option Addr) (sl sc : Nat) (r vn vi : Int) (MA : Option Addr) (ml mc : Nat) (UA : Option Addr) (ul uc : Nat) : Array Value := #[.int .i64 k, .int .i64 n, .int .u64 i, .int .u64 rd, .int .u64 cd, .slice SA sl sc, .int .u64 r, .int .i64 vn, .int .u64 vi, .slice MA ml mc, .slice UA ul uc]
set_option maxHeartbeats 1000000 in
theorem encSet_s (g m : Nat) (v : Value) (bs : List Int) (w W : World) (h : EN w (csN k n i rd cd SA st.length sc r vn vi MA ms.length mc UA us.length uc) g m v bs W) (hs : Sl w SA st) (hl : st.length ≤ 10000) (hn : bs.length ≤ 400000) (hwf : ∀ p ∈ st, wfU64 p.2) :
    Calls Tryz.prog 27 #[.pointer (some ⟨m, 0, none⟩), .pointer (some ⟨w.heap.size, 0, none⟩)] W fun e W' => e = .returned (.tuple #[]) ∧ ∃ v', EN w (csN k n i rd cd SA st.length sc r vn vi MA ms.length mc UA us.length uc) g m v' (bs ++ setBy st) W' := by
  haveI := h.k0
  haveI := h.km
  have hc0 : 0 ≤ (st.length : Int) % 256 := by omega
  have hc1 : (st.length : Int) % 256 < 256 := by omega
  have T1 := hide (u8_s g v bs _ W h.hw (by omega) hc0 hc1)
  have T2 : Hid (∀ v1 W1, Wtr W1 g v1 (bs ++ [(st.length : Int) % 256]) → RdW W1 g v1 2 SA st.length (pcs st) → Calls Tryz.prog 28 #[.pointer (some ⟨g, 0, none⟩), .slice SA st.length sc] W1 (RetWr g v1 W1 (bs ++ [(st.length : Int) % 256] ++ procsB st))) := hide (fun v1 W1 h1 h2 => putP_s g v1 _ SA sc st W1 h1 h2 hl (by simp; omega) hwf)
  have HE := hide h
  have HS := hide hs
  clear h hs
  go_enter Tryz.func27, Tryz.ntmps27
  go_wp2_with fail
  with_reducible refine T1.out.mono ?_
  rintro e w1 ⟨rfl, v1, hw1, hs1⟩
  have E1 := HE.out.put hw1 hs1
  haveI := E1.k0
  haveI := E1.km
  have T3 := hide (T2.out v1 w1 hw1 (E1.rd HS.out))
  clear hw1 hs1 HE T1 T2
  go_wp2_with fail
  with_reducible refine T3.out.mono ?_
  rintro e w2 ⟨rfl, v2, hw2, hs2⟩
  have E2 := hide (E1.put hw2 hs2)
  clear hw2 hs2 E1 T3
  go_wp2
  go_end0
  refine ⟨rfl, v2, ?_⟩
  have := E2.out
  simpa [setBy] using this
/-- the bytes, in new memory, and no error -/
def RetE (w : World) (bs : List Int) (e : Ending) (w' : World) : Prop := ∃ v, e = .returned (.tuple #[v, .int .i64 0]) ∧ OwnB w' w.heap.size v bs ∧ Below w.heap.size w w'
set_option maxRecDepth 100000 in
set_option maxHeartbeats 4000000 in
theorem encode1 (w : World) (hx : Nt.Ok w ⟨1, n, i, rd, cd, SA, sc, st, ⟨r, vn, vi, MA, mc, ms, UA, uc, us⟩⟩) (hsl : st.length ≤ 300) (hwi : wfU64 i) (hwr : wfU64 rd) (hwc : wfU64 cd) (hws : ∀ p ∈ st, wfU64 p.2) (hmay : Nt.mayB ⟨1, n, i, rd, cd, SA, sc, st, ⟨r, vn, vi, MA, mc, ms, UA, uc, us⟩⟩ = true) :
    Calls Tryz.prog 8 #[NtV 1 n i rd cd SA st.length sc r vn vi MA ms.length mc UA us.length uc] w (RetE w (Nt.enc ⟨1, n, i, rd, cd, SA, sc, st, ⟨r, vn, vi, MA, mc, ms, UA, uc, us⟩⟩)) := by
  have TM : Hid (∀ W, Nt.Ok W ⟨1, n, i, rd, cd, SA, sc, st, ⟨r, vn, vi, MA, mc, ms, UA, uc, us⟩⟩ → Calls Tryz.prog 23 #[NtV 1 n i rd cd SA st.length sc r vn vi MA ms.length mc UA us.length uc] W (RetBb W true)) := hide (fun W h => by
    have := nmay_s ⟨1, n, i, rd, cd, SA, sc, st, ⟨r, vn, vi, MA, mc, ms, UA, uc, us⟩⟩ W h
    rw [hmay] at this; exact this)
  have HX := hide hx
  have hS := hx.s
  have hV := hx.vk
  simp only at hS hV hsl
  clear hx hmay
  go_enter Tryz.func8, Tryz.ntmps8
  go_wp2_with fail
  (with_reducible refine (TM.out _ (HX.out.step (by repeat (first | exact Below.refl _ _ | assumption | refine bel_al ?_ _ | refine bel_gw ?_ _ _ | refine bel_drew ?_ | refine bel_drewN ?_ _)))).mono ?_)
  rintro e w1 ⟨rfl, hb⟩
  have p0 : BoxAt w1 w.heap.size (csN 1 n i rd cd SA st.length sc r vn vi MA ms.length mc UA us.length uc) 32 := (boxTop w _ _).step hb
  have hB := below_step (below_alloc w (bxN 1 n i rd cd SA st.length sc r vn vi MA ms.length mc UA us.length uc)) hb
  have hlt := p0.lt
  clear hb TM
  go_wp2_with fail
  with_reducible refine (newWriter_s w1).mono ?_
  rintro e w2 ⟨rfl, rfl⟩
  have E0 : EN w (csN 1 n i rd cd SA st.length sc r vn vi MA ms.length mc UA us.length uc) w1.heap.size (w1.heap.size + 1) (.slice none 0 0) [] ((w1.alloc (.cells #[.slice none 0 0] 99)).alloc (.cells #[.pointer (some ⟨w1.heap.size, 0, none⟩)] 56)) := by
    refine ⟨(p0.alloc' _).alloc' _, ?_, (newWtr w1).below (below_alloc _ _), by simp [Value.ownBlock], below_step hB (show Below w1.heap.size w1 _ from (by repeat (first | exact Below.refl _ _ | assumption | refine bel_al ?_ _ | refine bel_gw ?_ _ _ | refine bel_drew ?_ | refine bel_drewN ?_ _))), hlt, by omega⟩
    have := boxTop (w1.alloc (.cells #[.slice none 0 0] 99)) #[.pointer (some ⟨w1.heap.size, 0, none⟩)] 56
    rwa [World.size_alloc] at this
  haveI := E0.k0
  haveI := E0.km
  have T1 := hide (u8_s _ _ _ 1 _ E0.hw (by simp) (by omega) (by omega))
  have HE0 := hide E0
  clear E0 hB p0
  go_wp2_with fail
  with_reducible refine T1.out.mono ?_
  rintro e w3 ⟨rfl, v3, hw3, hs3⟩
  have E3 := HE0.out.put hw3 hs3
  rw [List.nil_append] at E3
  haveI := E3.k0
  haveI := E3.km
  clear hw3 hs3 HE0 T1
  have E3b := E3.below (below_alloc w3 (bx n i))
  have T3 := hide (putP1_s _ _ _ (some ⟨w3.heap.size, 0, none⟩) n i _ E3b.hw (RdW.lit2 E3.hw n i) (by have q1 := uintB_len i; have q2 := uintB_len rd; have q3 := uintB_len cd; simp [procB]; try omega) hwi)
  haveI := E3b.km
  haveI := E3b.k0
  go_wp2_with fail
  with_reducible refine T3.out.mono ?_
  rintro e w4 ⟨rfl, v4, hw4, hs4⟩
  have E4 := E3b.put hw4 hs4
  haveI := E4.k0
  haveI := E4.km
  clear hw4 hs4 E3 E3b T3
  have E4b := E4.below (below_alloc w4 (.cells #[.int .u64 rd, .int .u64 cd] 22))
  have T4 := hide (putU2_s _ _ _ (some ⟨w4.heap.size, 0, none⟩) rd cd _ E4b.hw (RdW.litU2 E4.hw rd cd) (by have q1 := uintB_len i; have q2 := uintB_len rd; have q3 := uintB_len cd; simp [procB]; try omega) hwr hwc)
  haveI := E4b.km
  haveI := E4b.k0
  go_wp2_with fail
  with_reducible refine T4.out.mono ?_
  rintro e w5 ⟨rfl, v5, hw5, hs5⟩
  have E5 := E4b.put hw5 hs5
  haveI := E5.k0
  haveI := E5.km
  clear hw5 hs5 E4 E4b T4
  have T5 := hide (encSet_s 1 n i rd cd SA sc st r vn vi MA mc ms UA uc us _ _ _ _ w w5 E5 hS (by omega) (by have q1 := uintB_len i; have q2 := uintB_len rd; have q3 := uintB_len cd; simp [procB]; try omega) hws)
  go_wp2_with fail
  with_reducible refine T5.out.mono ?_
  rintro e w6 ⟨rfl, v6, E6⟩
  haveI := E6.k0
  haveI := E6.km
  clear E5 T5
  have T6 := hide (bytes_s _ _ _ _ E6.hw (by have q1 := uintB_len i; have q2 := uintB_len rd; have q3 := uintB_len cd; have q4 := procsB_len st; simp [procB, setBy] at *; omega))
  have HB6 := hide E6.hB
  have hsz := E6.hB.size
  clear E6
  go_wp2_with fail
  with_reducible refine T6.out.mono ?_
  rintro e w9 ⟨v9, rfl, ho9, hb9⟩
  have HO9 := hide (own_base ho9 hsz)
  obtain ⟨A9, c9, rfl, _, _⟩ := own_slice ho9
  clear ho9
  go_wp2
  go_ret2
  refine ⟨_, rfl, ?_, below_step HB6.out hb9⟩
  have := HO9.out
  simpa [Nt.enc, OwnB, List.append_assoc] using this
set_option maxRecDepth 100000 in
set_option maxHeartbeats 4000000 in
theorem encode3 (w : World) (hx : Nt.Ok w ⟨3, n, i, rd, cd, SA, sc, st, ⟨r, vn, vi, MA, mc, ms, UA, uc, us⟩⟩) (hsl : st.length ≤ 300) (hwi : wfU64 i) (hwr : wfU64 rd) (hwc : wfU64 cd) (hws : ∀ p ∈ st, wfU64 p.2) (hmay : Nt.mayB ⟨3, n, i, rd, cd, SA, sc, st, ⟨r, vn, vi, MA, mc, ms, UA, uc, us⟩⟩ = true) :
    Calls Tryz.prog 8 #[NtV 3 n i rd cd SA st.length sc r vn vi MA ms.length mc UA us.length uc] w (RetE w (Nt.enc ⟨3, n, i, rd, cd, SA, sc, st, ⟨r, vn, vi, MA, mc, ms, UA, uc, us⟩⟩)) := by
  have TM : Hid (∀ W, Nt.Ok W ⟨3, n, i, rd, cd, SA, sc, st, ⟨r, vn, vi, MA, mc, ms, UA, uc, us⟩⟩ → Calls Tryz.prog 23 #[NtV 3 n i rd cd SA st.length sc r vn vi MA ms.length mc UA us.length uc] W (RetBb W true)) := hide (fun W h => by
    have := nmay_s ⟨3, n, i, rd, cd, SA, sc, st, ⟨r, vn, vi, MA, mc, ms, UA, uc, us⟩⟩ W h
    rw [hmay] at this; exact this)
  have HX := hide hx
  have hS := hx.s
  have hV := hx.vk
  simp only at hS hV hsl
  clear hx hmay
  go_enter Tryz.func8, Tryz.ntmps8
  go_wp2_with fail
  (with_reducible refine (TM.out _ (HX.out.step (by repeat (first | exact Below.refl _ _ | assumption | refine bel_al ?_ _ | refine bel_gw ?_ _ _ | refine bel_drew ?_ | refine bel_drewN ?_ _)))).mono ?_)
  rintro e w1 ⟨rfl, hb⟩
  have p0 : BoxAt w1 w.heap.size (csN 3 n i rd cd SA st.length sc r vn vi MA ms.length mc UA us.length uc) 32 := (boxTop w _ _).step hb
  have hB := below_step (below_alloc w (bxN 3 n i rd cd SA st.length sc r vn vi MA ms.length mc UA us.length uc)) hb
  have hlt := p0.lt
  clear hb TM
  go_wp2_with fail
  with_reducible refine (newWriter_s w1).mono ?_
  rintro e w2 ⟨rfl, rfl⟩
  have E0 : EN w (csN 3 n i rd cd SA st.length sc r vn vi MA ms.length mc UA us.length uc) w1.heap.size (w1.heap.size + 1) (.slice none 0 0) [] ((w1.alloc (.cells #[.slice none 0 0] 99)).alloc (.cells #[.pointer (some ⟨w1.heap.size, 0, none⟩)] 56)) := by
    refine ⟨(p0.alloc' _).alloc' _, ?_, (newWtr w1).below (below_alloc _ _), by simp [Value.ownBlock], below_step hB (show Below w1.heap.size w1 _ from (by repeat (first | exact Below.refl _ _ | assumption | refine bel_al ?_ _ | refine bel_gw ?_ _ _ | refine bel_drew ?_ | refine bel_drewN ?_ _))), hlt, by omega⟩
    have := boxTop (w1.alloc (.cells #[.slice none 0 0] 99)) #[.pointer (some ⟨w1.heap.size, 0, none⟩)] 56
    rwa [World.size_alloc] at this
  haveI := E0.k0
  haveI := E0.km
  have T1 := hide (u8_s _ _ _ 3 _ E0.hw (by simp) (by omega) (by omega))
  have HE0 := hide E0
  clear E0 hB p0
  go_wp2_with fail
  with_reducible refine T1.out.mono ?_
  rintro e w3 ⟨rfl, v3, hw3, hs3⟩
  have E3 := HE0.out.put hw3 hs3
  rw [List.nil_append] at E3
  haveI := E3.k0
  haveI := E3.km
  clear hw3 hs3 HE0 T1
  have E3b := E3.below (below_alloc w3 (bx n i))
  have T3 := hide (putP1_s _ _ _ (some ⟨w3.heap.size, 0, none⟩) n i _ E3b.hw (RdW.lit2 E3.hw n i) (by have q1 := uintB_len i; have q2 := uintB_len rd; have q3 := uintB_len cd; simp [procB]; try omega) hwi)
  haveI := E3b.km
  haveI := E3b.k0
  go_wp2_with fail
  with_reducible refine T3.out.mono ?_
  rintro e w4 ⟨rfl, v4, hw4, hs4⟩
  have E4 := E3b.put hw4 hs4
  haveI := E4.k0
  haveI := E4.km
  clear hw4 hs4 E3 E3b T3
  have E4b := E4.below (below_alloc w4 (.cells #[.int .u64 rd, .int .u64 cd] 22))
  have T4 := hide (putU2_s _ _ _ (some ⟨w4.heap.size, 0, none⟩) rd cd _ E4b.hw (RdW.litU2 E4.hw rd cd) (by have q1 := uintB_len i; have q2 := uintB_len rd; have q3 := uintB_len cd; simp [procB]; try omega) hwr hwc)
  haveI := E4b.km
  haveI := E4b.k0
  go_wp2_with fail
  with_reducible refine T4.out.mono ?_
  rintro e w5 ⟨rfl, v5, hw5, hs5⟩
  have E5 := E4b.put hw5 hs5
  haveI := E5.k0
  haveI := E5.km
  clear hw5 hs5 E4 E4b T4
  have T5 := hide (encSet_s 3 n i rd cd SA sc st r vn vi MA mc ms UA uc us _ _ _ _ w w5 E5 hS (by omega) (by have q1 := uintB_len i; have q2 := uintB_len rd; have q3 := uintB_len cd; simp [procB]; try omega) hws)
  go_wp2_with fail
  with_reducible refine T5.out.mono ?_
  rintro e w6 ⟨rfl, v6, E6⟩
  haveI := E6.k0
  haveI := E6.km
  clear E5 T5
  have T6 := hide (bytes_s _ _ _ _ E6.hw (by have q1 := uintB_len i; have q2 := uintB_len rd; have q3 := uintB_len cd; have q4 := procsB_len st; simp [procB, setBy] at *; omega))
  have HB6 := hide E6.hB
  have hsz := E6.hB.size
  clear E6
  go_wp2_with fail
  with_reducible refine T6.out.mono ?_
  rintro e w9 ⟨v9, rfl, ho9, hb9⟩
  have HO9 := hide (own_base ho9 hsz)
  obtain ⟨A9, c9, rfl, _, _⟩ := own_slice ho9
  clear ho9
  go_wp2
  go_ret2
  refine ⟨_, rfl, ?_, below_step HB6.out hb9⟩
  have := HO9.out
  simpa [Nt.enc, OwnB, List.append_assoc] using this
set_option maxRecDepth 100000 in
set_option maxHeartbeats 4000000 in
theorem encode2 (w : World) (hx : Nt.Ok w ⟨2, n, i, rd, cd, SA, sc, st, ⟨r, vn, vi, MA, mc, ms, UA, uc, us⟩⟩) (hsl : st.length ≤ 300) (hwi : wfU64 i) (hwr : wfU64 rd) (hwc : wfU64 cd) (hws : ∀ p ∈ st, wfU64 p.2) (hmay : Nt.mayB ⟨2, n, i, rd, cd, SA, sc, st, ⟨r, vn, vi, MA, mc, ms, UA, uc, us⟩⟩ = true) :
    Calls Tryz.prog 8 #[NtV 2 n i rd cd SA st.length sc r vn vi MA ms.length mc UA us.length uc] w (RetE w (Nt.enc ⟨2, n, i, rd, cd, SA, sc, st, ⟨r, vn, vi, MA, mc, ms, UA, uc, us⟩⟩)) := by
  have TM : Hid (∀ W, Nt.Ok W ⟨2, n, i, rd, cd, SA, sc, st, ⟨r, vn, vi, MA, mc, ms, UA, uc, us⟩⟩ → Calls Tryz.prog 23 #[NtV 2 n i rd cd SA st.length sc r vn vi MA ms.length mc UA us.length uc] W (RetBb W true)) := hide (fun W h => by
    have := nmay_s ⟨2, n, i, rd, cd, SA, sc, st, ⟨r, vn, vi, MA, mc, ms, UA, uc, us⟩⟩ W h
    rw [hmay] at this; exact this)
  have HX := hide hx
  have hS := hx.s
  have hV := hx.vk
  simp only at hS hV hsl
  clear hx hmay
  go_enter Tryz.func8, Tryz.ntmps8
  go_wp2_with fail
  (with_reducible refine (TM.out _ (HX.out.step (by repeat (first | exact Below.refl _ _ | assumption | refine bel_al ?_ _ | refine bel_gw ?_ _ _ | refine bel_drew ?_ | refine bel_drewN ?_ _)))).mono ?_)
  rintro e w1 ⟨rfl, hb⟩
  have p0 : BoxAt w1 w.heap.size (csN 2 n i rd cd SA st.length sc r vn vi MA ms.length mc UA us.length uc) 32 := (boxTop w _ _).step hb
  have hB := below_step (below_alloc w (bxN 2 n i rd cd SA st.length sc r vn vi MA ms.length mc UA us.length uc)) hb
  have hlt := p0.lt
  clear hb TM
  go_wp2_with fail
  with_reducible refine (newWriter_s w1).mono ?_
  rintro e w2 ⟨rfl, rfl⟩
  have E0 : EN w (csN 2 n i rd cd SA st.length sc r vn vi MA ms.length mc UA us.length uc) w1.heap.size (w1.heap.size + 1) (.slice none 0 0) [] ((w1.alloc (.cells #[.slice none 0 0] 99)).alloc (.cells #[.pointer (some ⟨w1.heap.size, 0, none⟩)] 56)) := by
    refine ⟨(p0.alloc' _).alloc' _, ?_, (newWtr w1).below (below_alloc _ _), by simp [Value.ownBlock], below_step hB (show Below w1.heap.size w1 _ from (by repeat (first | exact Below.refl _ _ | assumption | refine bel_al ?_ _ | refine bel_gw ?_ _ _ | refine bel_drew ?_ | refine bel_drewN ?_ _))), hlt, by omega⟩
    have := boxTop (w1.alloc (.cells #[.slice none 0 0] 99)) #[.pointer (some ⟨w1.heap.size, 0, none⟩)] 56
    rwa [World.size_alloc] at this
  haveI := E0.k0
  haveI := E0.km
  have T1 := hide (u8_s _ _ _ 2 _ E0.hw (by simp) (by omega) (by omega))
  have HE0 := hide E0
  clear E0 hB p0
  go_wp2_with fail
  with_reducible refine T1.out.mono ?_
  rintro e w3 ⟨rfl, v3, hw3, hs3⟩
  have E3 := HE0.out.put hw3 hs3
  rw [List.nil_append] at E3
  haveI := E3.k0
  haveI := E3.km
  clear hw3 hs3 HE0 T1
  have E3b := E3.below (below_alloc w3 (bx n i))
  have T3 := hide (putP1_s _ _ _ (some ⟨w3.heap.size, 0, none⟩) n i _ E3b.hw (RdW.lit2 E3.hw n i) (by have q1 := uintB_len i; have q2 := uintB_len rd; have q3 := uintB_len cd; simp [procB]; try omega) hwi)
  haveI := E3b.km
  haveI := E3b.k0
  go_wp2_with fail
  with_reducible refine T3.out.mono ?_
  rintro e w4 ⟨rfl, v4, hw4, hs4⟩
  have E4 := E3b.put hw4 hs4
  haveI := E4.k0
  haveI := E4.km
  clear hw4 hs4 E3 E3b T3
  have T4 := hide (bytes_s _ _ _ _ E4.hw (by have q1 := uintB_len i; have q2 := uintB_len rd; have q3 := uintB_len cd; have q4 := procsB_len st; simp [procB, setBy] at *; omega))
  have HB4 := hide E4.hB
  have hsz := E4.hB.size
  clear E4
  go_wp2_with fail
  with_reducible refine T4.out.mono ?_
  rintro e w9 ⟨v9, rfl, ho9, hb9⟩
  have HO9 := hide (own_base ho9 hsz)
  obtain ⟨A9, c9, rfl, _, _⟩ := own_slice ho9
  clear ho9
  go_wp2
  go_ret2
  refine ⟨_, rfl, ?_, below_step HB4.out hb9⟩
  have := HO9.out
  simpa [Nt.enc, OwnB, List.append_assoc] using this
set_option maxRecDepth 100000 in
set_option maxHeartbeats 4000000 in
theorem encode4 (w : World) (hx : Nt.Ok w ⟨4, n, i, rd, cd, SA, sc, st, ⟨r, vn, vi, MA, mc, ms, UA, uc, us⟩⟩) (hsl : st.length ≤ 300) (hwi : wfU64 i) (hwr : wfU64 rd) (hwc : wfU64 cd) (hws : ∀ p ∈ st, wfU64 p.2) (hmay : Nt.mayB ⟨4, n, i, rd, cd, SA, sc, st, ⟨r, vn, vi, MA, mc, ms, UA, uc, us⟩⟩ = true) :
    Calls Tryz.prog 8 #[NtV 4 n i rd cd SA st.length sc r vn vi MA ms.length mc UA us.length uc] w (RetE w (Nt.enc ⟨4, n, i, rd, cd, SA, sc, st, ⟨r, vn, vi, MA, mc, ms, UA, uc, us⟩⟩)) := by
  have TM : Hid (∀ W, Nt.Ok W ⟨4, n, i, rd, cd, SA, sc, st, ⟨r, vn, vi, MA, mc, ms, UA, uc, us⟩⟩ → Calls Tryz.prog 23 #[NtV 4 n i rd cd SA st.length sc r vn vi MA ms.length mc UA us.length uc] W (RetBb W true)) := hide (fun W h => by
    have := nmay_s ⟨4, n, i, rd, cd, SA, sc, st, ⟨r, vn, vi, MA, mc, ms, UA, uc, us⟩⟩ W h
    rw [hmay] at this; exact this)
  have HX := hide hx
  have hS := hx.s
  have hV := hx.vk
  simp only at hS hV hsl
  clear hx hmay
  go_enter Tryz.func8, Tryz.ntmps8
  go_wp2_with fail
  (with_reducible refine (TM.out _ (HX.out.step (by repeat (first | exact Below.refl _ _ | assumption | refine bel_al ?_ _ | refine bel_gw ?_ _ _ | refine bel_drew ?_ | refine bel_drewN ?_ _)))).mono ?_)
  rintro e w1 ⟨rfl, hb⟩
  have p0 : BoxAt w1 w.heap.size (csN 4 n i rd cd SA st.length sc r vn vi MA ms.length mc UA us.length uc) 32 := (boxTop w _ _).step hb
  have hB := below_step (below_alloc w (bxN 4 n i rd cd SA st.length sc r vn vi MA ms.length mc UA us.length uc)) hb
  have hlt := p0.lt
  clear hb TM
  go_wp2_with fail
  with_reducible refine (newWriter_s w1).mono ?_
  rintro e w2 ⟨rfl, rfl⟩
  have E0 : EN w (csN 4 n i rd cd SA st.length sc r vn vi MA ms.length mc UA us.length uc) w1.heap.size (w1.heap.size + 1) (.slice none 0 0) [] ((w1.alloc (.cells #[.slice none 0 0] 99)).alloc (.cells #[.pointer (some ⟨w1.heap.size, 0, none⟩)] 56)) := by
    refine ⟨(p0.alloc' _).alloc' _, ?_, (newWtr w1).below (below_alloc _ _), by simp [Value.ownBlock], below_step hB (show Below w1.heap.size w1 _ from (by repeat (first | exact Below.refl _ _ | assumption | refine bel_al ?_ _ | refine bel_gw ?_ _ _ | refine bel_drew ?_ | refine bel_drewN ?_ _))), hlt, by omega⟩
    have := boxTop (w1.alloc (.cells #[.slice none 0 0] 99)) #[.pointer (some ⟨w1.heap.size, 0, none⟩)] 56
    rwa [World.size_alloc] at this
  haveI := E0.k0
  haveI := E0.km
  have T1 := hide (u8_s _ _ _ 4 _ E0.hw (by simp) (by omega) (by omega))
  have HE0 := hide E0
  clear E0 hB p0
  go_wp2_with fail
  with_reducible refine T1.out.mono ?_
  rintro e w3 ⟨rfl, v3, hw3, hs3⟩
  have E3 := HE0.out.put hw3 hs3
  rw [List.nil_append] at E3
  haveI := E3.k0
  haveI := E3.km
  clear hw3 hs3 HE0 T1
  have E3b := E3.below (below_alloc w3 (bx n i))
  have T3 := hide (putP1_s _ _ _ (some ⟨w3.heap.size, 0, none⟩) n i _ E3b.hw (RdW.lit2 E3.hw n i) (by have q1 := uintB_len i; have q2 := uintB_len rd; have q3 := uintB_len cd; simp [procB]; try omega) hwi)
  haveI := E3b.km
  haveI := E3b.k0
  go_wp2_with fail
  with_reducible refine T3.out.mono ?_
  rintro e w4 ⟨rfl, v4, hw4, hs4⟩
  have E4 := E3b.put hw4 hs4
  haveI := E4.k0
  haveI := E4.km
  clear hw4 hs4 E3 E3b T3
  have E4b := E4.below (below_alloc w4 (.cells #[.int .u64 cd] 22))
  have T4 := hide (putU1_s _ _ _ (some ⟨w4.heap.size, 0, none⟩) cd _ E4b.hw (RdW.lit1 E4.hw cd) (by have q1 := uintB_len i; have q2 := uintB_len rd; have q3 := uintB_len cd; simp [procB]; try omega) hwc)
  haveI := E4b.km
  haveI := E4b.k0
  go_wp2_with fail
  with_reducible refine T4.out.mono ?_
  rintro e w5 ⟨rfl, v5, hw5, hs5⟩
  have E5 := E4b.put hw5 hs5
  haveI := E5.k0
  haveI := E5.km
  clear hw5 hs5 E4 E4b T4
  have T5 := hide (encSet_s 4 n i rd cd SA sc st r vn vi MA mc ms UA uc us _ _ _ _ w w5 E5 hS (by omega) (by have q1 := uintB_len i; have q2 := uintB_len rd; have q3 := uintB_len cd; simp [procB]; try omega) hws)
  go_wp2_with fail
  with_reducible refine T5.out.mono ?_
  rintro e w6 ⟨rfl, v6, E6⟩
  haveI := E6.k0
  haveI := E6.km
  clear E5 T5
  have T6 := hide (bytes_s _ _ _ _ E6.hw (by have q1 := uintB_len i; have q2 := uintB_len rd; have q3 := uintB_len cd; have q4 := procsB_len st; simp [procB, setBy] at *; omega))
  have HB6 := hide E6.hB
  have hsz := E6.hB.size
  clear E6
  go_wp2_with fail
  with_reducible refine T6.out.mono ?_
  rintro e w9 ⟨v9, rfl, ho9, hb9⟩
  have HO9 := hide (own_base ho9 hsz)
  obtain ⟨A9, c9, rfl, _, _⟩ := own_slice ho9
  clear ho9
  go_wp2
  go_ret2
  refine ⟨_, rfl, ?_, below_step HB6.out hb9⟩
  have := HO9.out
  simpa [Nt.enc, OwnB, List.append_assoc] using this
set_option maxRecDepth 100000 in
set_option maxHeartbeats 4000000 in
theorem encode5 (w : World) (hx : Nt.Ok w ⟨5, n, i, rd, cd, SA, sc, st, ⟨r, vn, vi, MA, mc, ms, UA, uc, us⟩⟩) (hsl : st.length ≤ 300) (hwi : wfU64 i) (hwr : wfU64 rd) (hwc : wfU64 cd) (hws : ∀ p ∈ st, wfU64 p.2) (hml : ms.length ≤ 300) (hul : us.length ≤ 300) (hvr : wfU64 r) (hvi : wfU64 vi) (hvm : ∀ p ∈ ms, wfU64 p.2) (hvu : ∀ u ∈ us, wfU64 u) (hmay : Nt.mayB ⟨5, n, i, rd, cd, SA, sc, st, ⟨r, vn, vi, MA, mc, ms, UA, uc, us⟩⟩ = true) :
    Calls Tryz.prog 8 #[NtV 5 n i rd cd SA st.length sc r vn vi MA ms.length mc UA us.length uc] w (RetE w (Nt.enc ⟨5, n, i, rd, cd, SA, sc, st, ⟨r, vn, vi, MA, mc, ms, UA, uc, us⟩⟩)) := by
  have TM : Hid (∀ W, Nt.Ok W ⟨5, n, i, rd, cd, SA, sc, st, ⟨r, vn, vi, MA, mc, ms, UA, uc, us⟩⟩ → Calls Tryz.prog 23 #[NtV 5 n i rd cd SA st.length sc r vn vi MA ms.length mc UA us.length uc] W (RetBb W true)) := hide (fun W h => by
    have := nmay_s ⟨5, n, i, rd, cd, SA, sc, st, ⟨r, vn, vi, MA, mc, ms, UA, uc, us⟩⟩ W h
    rw [hmay] at this; exact this)
  have HX := hide hx
  have hS := hx.s
  have hV := hx.vk
  simp only at hS hV hsl
  clear hx hmay
  go_enter Tryz.func8, Tryz.ntmps8
  go_wp2_with fail
  (with_reducible refine (TM.out _ (HX.out.step (by repeat (first | exact Below.refl _ _ | assumption | refine bel_al ?_ _ | refine bel_gw ?_ _ _ | refine bel_drew ?_ | refine bel_drewN ?_ _)))).mono ?_)
  rintro e w1 ⟨rfl, hb⟩
  have p0 : BoxAt w1 w.heap.size (csN 5 n i rd cd SA st.length sc r vn vi MA ms.length mc UA us.length uc) 32 := (boxTop w _ _).step hb
  have hB := below_step (below_alloc w (bxN 5 n i rd cd SA st.length sc r vn vi MA ms.length mc UA us.length uc)) hb
  have hlt := p0.lt
  clear hb TM
  go_wp2_with fail
  with_reducible refine (newWriter_s w1).mono ?_
  rintro e w2 ⟨rfl, rfl⟩
  have E0 : EN w (csN 5 n i rd cd SA st.length sc r vn vi MA ms.length mc UA us.length uc) w1.heap.size (w1.heap.size + 1) (.slice none 0 0) [] ((w1.alloc (.cells #[.slice none 0 0] 99)).alloc (.cells #[.pointer (some ⟨w1.heap.size, 0, none⟩)] 56)) := by
    refine ⟨(p0.alloc' _).alloc' _, ?_, (newWtr w1).below (below_alloc _ _), by simp [Value.ownBlock], below_step hB (show Below w1.heap.size w1 _ from (by repeat (first | exact Below.refl _ _ | assumption | refine bel_al ?_ _ | refine bel_gw ?_ _ _ | refine bel_drew ?_ | refine bel_drewN ?_ _))), hlt, by omega⟩
    have := boxTop (w1.alloc (.cells #[.slice none 0 0] 99)) #[.pointer (some ⟨w1.heap.size, 0, none⟩)] 56
    rwa [World.size_alloc] at this
  haveI := E0.k0
  haveI := E0.km
  have T1 := hide (u8_s _ _ _ 5 _ E0.hw (by simp) (by omega) (by omega))
  have HE0 := hide E0
  clear E0 hB p0
  go_wp2_with fail
  with_reducible refine T1.out.mono ?_
  rintro e w3 ⟨rfl, v3, hw3, hs3⟩
  have E3 := HE0.out.put hw3 hs3
  rw [List.nil_append] at E3
  haveI := E3.k0
  haveI := E3.km
  clear hw3 hs3 HE0 T1
  have T3 := hide (putV_s _ _ _ r vn vi MA mc ms UA uc us _ E3.hw (by simp) (E3.rd hV.m) (E3.rd hV.u) (by omega) (by omega) hvr hvi hvm hvu)
  go_wp2_with fail
  with_reducible refine T3.out.mono ?_
  rintro e w4 ⟨rfl, v4, hw4, hs4⟩
  have E4 := E3.put hw4 hs4
  haveI := E4.k0
  haveI := E4.km
  clear hw4 hs4 E3 T3
  have T4 := hide (bytes_s _ _ _ _ E4.hw (by have q1 := viewB_len r vn vi ms us; simp; omega))
  have HB4 := hide E4.hB
  have hsz := E4.hB.size
  clear E4
  go_wp2_with fail
  with_reducible refine T4.out.mono ?_
  rintro e w9 ⟨v9, rfl, ho9, hb9⟩
  have HO9 := hide (own_base ho9 hsz)
  obtain ⟨A9, c9, rfl, _, _⟩ := own_slice ho9
  clear ho9
  go_wp2
  go_ret2
  refine ⟨_, rfl, ?_, below_step HB4.out hb9⟩
  have := HO9.out
  simpa [Nt.enc, OwnB] using this
set_option maxRecDepth 100000 in
set_option maxHeartbeats 2000000 in
theorem encode_no (w : World) (hx : Nt.Ok w ⟨k, n, i, rd, cd, SA, sc, st, ⟨r, vn, vi, MA, mc, ms, UA, uc, us⟩⟩) (hmay : Nt.mayB ⟨k, n, i, rd, cd, SA, sc, st, ⟨r, vn, vi, MA, mc, ms, UA, uc, us⟩⟩ = false) :
    Calls Tryz.prog 8 #[NtV k n i rd cd SA st.length sc r vn vi MA ms.length mc UA us.length uc] w fun e w' => e = .returned (.tuple #[.slice none 0 0, .int .i64 3]) ∧ Below w.heap.size w w' := by
  have TM : Hid (∀ W, Nt.Ok W ⟨k, n, i, rd, cd, SA, sc, st, ⟨r, vn, vi, MA, mc, ms, UA, uc, us⟩⟩ → Calls Tryz.prog 23 #[NtV k n i rd cd SA st.length sc r vn vi MA ms.length mc UA us.length uc] W (RetBb W false)) := hide (fun W h => by
    have := nmay_s ⟨k, n, i, rd, cd, SA, sc, st, ⟨r, vn, vi, MA, mc, ms, UA, uc, us⟩⟩ W h
    rw [hmay] at this; exact this)
  have HX := hide hx
  clear hx hmay
  go_enter Tryz.func8, Tryz.ntmps8
  go_wp2_with fail
  (with_reducible refine (TM.out _ (HX.out.step (by repeat (first | exact Below.refl _ _ | assumption | refine bel_al ?_ _ | refine bel_gw ?_ _ _ | refine bel_drew ?_ | refine bel_drewN ?_ _)))).mono ?_)
  rintro e w1 ⟨rfl, hb⟩
  obtain ⟨⟨d1, os1⟩, rfl⟩ := gw_of_below hb
  clear hb
  go_wp2
  go_ret2
  exact ⟨rfl, (by repeat (first | exact Below.refl _ _ | assumption | refine bel_al ?_ _ | refine bel_gw ?_ _ _ | refine bel_drew ?_ | refine bel_drewN ?_ _))⟩
end
end Go.Proofs.YtdmjopokclljlaaGreat

/-
  A reader's step seen from a frame: the world below the frame's own boxes changes, the boxes stay. Contracts: proc.Get, proc.GetSet.
-/
import Derived.Test.YtgpmcpinnaggmaaRdr3
import Derived.Test.YtgpmcpinnaggmaaSet
namespace Go.Proofs.Ytgpmcpinnaggmaa
set_option linter.unusedSimpArgs false
set_option linter.unusedVariables false
set_option linter.unusedSectionVars false
open Go.RowKit

/-! ### blocks are counted one by one -/
theorem size_gwS (w : World) (d : Nat) (os : Array Obj) : (gw w d os).heap.size = w.heap.size + os.size := by simp [gw]
@[go_sem] theorem size_gw_sum (w : World) (d : Nat) (os : Array Obj) : (gw w d os).heap.size = w.heap.size + os.size := size_gwS w d os
instance (priority := high) Sz.gwS (w : World) (n d : Nat) (os : Array Obj) [h : Sz w n] : Sz (gw w d os) (n + os.size) := ⟨by rw [size_gwS, h.eq]⟩

/-- blocks that are laid over whatever world -/
def Lays (f : World → World) : Prop := ∃ l : Array Obj, ∀ W : World, (f W).heap = W.heap ++ l ∧ (f W).os = W.os ∧ (f W).tape = W.tape ∧ (f W).output = W.output
theorem heap_al (w : World) (o : Obj) : (w.alloc o).heap = w.heap.push o := rfl
theorem Lays.id : Lays fun W => W := ⟨#[], fun W => ⟨by simp, rfl, rfl, rfl⟩⟩
theorem Lays.alloc {f : World → World} (h : Lays f) (o : Obj) : Lays fun W => (f W).alloc o := by
  obtain ⟨l, h⟩ := h
  refine ⟨l.push o, fun W => ?_⟩
  obtain ⟨h1, h2, h3, h4⟩ := h W
  exact ⟨by rw [heap_al, h1]; simp, h2, h3, h4⟩
theorem Lays.gw {f : World → World} (h : Lays f) (d : Nat) (os : Array Obj) : Lays fun W => gw (f W) d os := by
  obtain ⟨l, h⟩ := h
  refine ⟨l ++ os, fun W => ?_⟩
  obtain ⟨h1, h2, h3, h4⟩ := h W
  exact ⟨by simp [Go.Proofs.Ytgpmcpinnaggmaa.gw, h1], h2, h3, h4⟩
theorem gw_ext {W w : World} (h1 : w.os = W.os) (h2 : w.tape = W.tape) (h3 : w.output = W.output) (os : Array Obj) (h4 : w.heap = W.heap ++ os) : w = gw W w.drawn os := by
  obtain ⟨hp, tp, dr, o, out⟩ := w
  simp only at h1 h2 h3 h4
  subst h1 h2 h3 h4
  rfl
/-- a step that writes block g of the lower world -/
theorem rst {W w' : World} {g : Nat} (f : World → World) (hf : Lays f) (h : (f W).grownBy w' (some g)) (hg : g < W.heap.size) :
    ∃ (W' : World) (p : GW), W'.heap.size = W.heap.size ∧ W.grownBy W' (some g) ∧ w' = gw (f W') p.d p.os ∧ (∀ k, k < W.heap.size → W'.heap[k]? = w'.heap[k]?) := by
  obtain ⟨l, hf⟩ := hf
  obtain ⟨e1, e2, e3, e4⟩ := hf W
  have hsz : W.heap.size + l.size ≤ w'.heap.size := by
    have := h.size; rw [e1] at this; simpa using this
  have hbl : ∀ k, k < W.heap.size + l.size → k ≠ g → w'.heap[k]? = (W.heap ++ l)[k]? := by
    intro k hk hkg
    rw [h.block k (by rw [e1]; simpa using hk) (fun e => hkg (by injection e)), e1]
  let W' : World := { W with heap := w'.heap.extract 0 W.heap.size }
  have hs' : W'.heap.size = W.heap.size := by simp [W']; omega
  have hk' : ∀ k, k < W.heap.size → W'.heap[k]? = w'.heap[k]? := by
    intro k hk
    show (w'.heap.extract 0 W.heap.size)[k]? = _
    rw [Array.getElem?_extract, if_pos (by omega)]; simp
  obtain ⟨f1, f2, f3, f4⟩ := hf W'
  refine ⟨W', ⟨w'.drawn, w'.heap.extract (W.heap.size + l.size) w'.heap.size⟩, hs', ⟨rfl, rfl, rfl, by omega, fun k hk hkg => ?_⟩, ?_, hk'⟩
  · rw [hk' k hk, hbl k (by omega) (fun e => hkg (by rw [e])), Array.getElem?_append_left hk]
  · refine gw_ext ?_ ?_ ?_ _ ?_
    · rw [f2]; exact h.os.trans e2
    · rw [f3]; exact h.tape.trans e3
    · rw [f4]; exact h.output.trans e4
    · rw [f1]
      apply Array.ext_getElem?
      intro k
      rcases Nat.lt_or_ge k W.heap.size with h1 | h1
      · rw [Array.getElem?_append_left (by simp [hs']; omega), Array.getElem?_append_left (by omega), hk' k h1]
      · rcases Nat.lt_or_ge k (W.heap.size + l.size) with h2 | h2
        · rw [Array.getElem?_append_left (by simp [hs']; omega), Array.getElem?_append_right (by omega), hbl k h2 (by omega), Array.getElem?_append_right h1, hs']
        · rw [Array.getElem?_append_right (by simp [hs']; omega), Array.getElem?_extract]
          simp only [Array.size_append, hs']
          rcases Nat.lt_or_ge k w'.heap.size with h3 | h3
          · rw [if_pos (by omega)]; congr 1; omega
          · rw [if_neg (by omega), Array.getElem?_eq_none h3]
theorem Rd.keepB {w w' : World} {g B c : Nat} {A : Option Addr} {bs : List Int} {bad : Bool} (h : Rd w g B A c bs bad) (hb : ∀ k, k < B → w'.heap[k]? = w.heap[k]?) (hs : B ≤ w'.heap.size) : Rd w' g B A c bs bad :=
  ⟨by rw [hb g h.top]; exact h.box, fun hn => by
    obtain ⟨b, off, e, h1, h2, h3⟩ := h.data hn
    exact ⟨b, off, e, h1, h2, fun j u hu => (World.cell?_of_block (a := ⟨b, off + j, none⟩) (hb b h1)).trans (h3 j u hu)⟩, h.cap, h.max, h.ok, h.top, hs⟩
theorem Rds.keepB {w w' : World} {g B : Nat} {bs : List Int} {bad : Bool} (h : Rds w g B bs bad) (hb : ∀ k, k < B → w'.heap[k]? = w.heap[k]?) (hs : B ≤ w'.heap.size) : Rds w' g B bs bad := by
  obtain ⟨A, c, h⟩ := h; exact ⟨A, c, h.keepB hb hs⟩
/-- the whole of a reader's step: the lower world, what it has read -/
theorem rstF {W w' : World} {g B : Nat} {s : RS} (f : World → World) (hf : Lays f) (h : (f W).grownBy w' (some g)) (hr : Rds w' g B s.1 s.2) (hB : B ≤ W.heap.size) :
    ∃ (W' : World) (p : GW), W'.heap.size = W.heap.size ∧ W.grownBy W' (some g) ∧ w' = gw (f W') p.d p.os ∧ Rds W' g B s.1 s.2 := by
  have hg : g < W.heap.size := Nat.lt_of_lt_of_le hr.top hB
  obtain ⟨W', p, h1, h2, h3, h4⟩ := rst f hf h hg
  exact ⟨W', p, h1, h2, h3, hr.keepB (fun k hk => h4 k (by omega)) (by omega)⟩
theorem grown_gw {W W' w : World} {g : Nat} (h : W.grownBy W' (some g)) (k : Below W'.heap.size W' w) : W.grownBy w (some g) := grown_trans h (grown_below k)
theorem grown_refl (W : World) (r : Option Nat) : W.grownBy W r := grown_below (Below.refl _ _)

theorem failR_s (g B : Nat) (s : RS) (w : World) (h : Rds w g B s.1 s.2) : Calls Try.prog 91 #[.pointer (some ⟨g, 0, none⟩)] w (RetR g B w (.tuple #[]) (s.1, true)) := fail_s g B s.1 s.2 w h
/-- a life is read -/
def rGet (s : RS) : (Int × Int) × RS :=
  if (rUint (rU8 s).2).2.2 = true ∨ mayB (rU8 s).1 (rUint (rU8 s).2).1 = false then ((0, 0), ((rUint (rU8 s).2).2.1, true)) else (((rU8 s).1, (rUint (rU8 s).2).1), (rUint (rU8 s).2).2)
theorem rU8_len (s : RS) : (rU8 s).2.1.length ≤ s.1.length := by
  obtain ⟨bs, bad⟩ := s
  cases bs with
  | nil => simp [rU8]
  | cons b bs => cases bad <;> simp [rU8]
theorem rUint_len (s : RS) : (rUint s).2.1.length ≤ s.1.length := by
  unfold rUint
  split <;> simp
theorem rGet_len (s : RS) : (rGet s).2.1.length ≤ s.1.length := by
  have h1 := rU8_len s
  have h2 := rUint_len (rU8 s).2
  unfold rGet
  split <;> (simp only; omega)
set_option maxHeartbeats 1000000 in
theorem getP_s (g B : Nat) (s : RS) (w : World) (h : Rds w g B s.1 s.2) (hn : s.1.length ≤ 1000000) :
    Calls Try.prog 39 #[.pointer (some ⟨g, 0, none⟩)] w (RetR g B w (.agg #[.int .i64 (rGet s).1.1, .int .u64 (rGet s).1.2]) (rGet s).2) := by
  have hle := h.le
  have htop := h.top
  have T1 := hide (u8R_s g B s _ (h.step (below_alloc w (bx 0 0))))
  have hr := rU8_range h.ok
  have hl1 := rU8_len s
  have T2 := hide (fun W (hW : Rds W g B (rU8 s).2.1 (rU8 s).2.2) => uintR_s g B (rU8 s).2 W hW (by omega))
  have hGet : rGet s = if (rUint (rU8 s).2).2.2 = true ∨ mayB (rU8 s).1 (rUint (rU8 s).2).1 = false then ((0, 0), ((rUint (rU8 s).2).2.1, true)) else (((rU8 s).1, (rUint (rU8 s).2).1), (rUint (rU8 s).2).2) := rfl
  rw [hGet]
  clear hGet hl1 h
  generalize rU8 s = r1 at T1 T2 hr ⊢
  obtain ⟨x1, s1⟩ := r1
  simp only at T1 T2 hr ⊢
  generalize rUint s1 = r2 at T2 ⊢
  obtain ⟨x2, bs2, bad2⟩ := r2
  simp only at T2 ⊢
  have T3 := hide (fun W (hW : Rds W g B bs2 bad2) => err_s g B bs2 bad2 W hW)
  have T4 := hide (fun W => may_any x1 x2 W)
  have T5 := hide (fun W (hW : Rds W g B bs2 bad2) => failR_s g B (bs2, bad2) W hW)
  obtain ⟨hr0, hr1⟩ := hr
  have key : bad2 = true ∨ (bad2 = false ∧ mayB x1 x2 = false) ∨ (bad2 = false ∧ mayB x1 x2 = true) := by
    cases bad2 <;> cases mayB x1 x2 <;> simp
  rcases key with rfl | ⟨rfl, hm⟩ | ⟨rfl, hm⟩
  · rw [if_pos (.inl rfl)]
    simp only [if_true] at T3
    go_enter Try.func39, Try.ntmps39
    go_wp2_with fail
    (with_reducible refine T1.out.mono ?_)
    rintro e wx ⟨rfl, hR, hG⟩
    obtain ⟨W1, ⟨d1, os1⟩, hs1, hg1, rfl, hR1⟩ := rstF (W := w) (fun W => W.alloc (bx 0 0)) (by repeat (first | exact Lays.id | refine Lays.alloc ?_ _ | refine Lays.gw ?_ _ _)) hG hR (by omega)
    dsimp only
    haveI : Sz W1 w.heap.size := ⟨hs1⟩
    clear hR hG
    go_wp2_with fail
    (with_reducible refine (T2.out _ (hR1.step (by repeat (first | exact Below.refl _ _ | assumption | refine bel_al ?_ _ | refine bel_gw ?_ _ _ | refine bel_drew ?_ | refine bel_drewN ?_ _)))).mono ?_)
    rintro e wx ⟨rfl, hR, hG⟩
    obtain ⟨W2, ⟨d2, os2⟩, hs2, hg2, rfl, hR2⟩ := rstF (W := W1) (fun W => gw (W.alloc (bx 0 0)) d1 os1) (by repeat (first | exact Lays.id | refine Lays.alloc ?_ _ | refine Lays.gw ?_ _ _)) hG hR (by omega)
    dsimp only
    replace hg2 := grown_trans hg1 hg2
    replace hs2 := hs2.trans hs1
    haveI : Sz W2 w.heap.size := ⟨hs2⟩
    clear hR hG hR1 hs1 hg1
    go_wp2_with fail
    (with_reducible refine (T3.out _ (hR2.step (by repeat (first | exact Below.refl _ _ | assumption | refine bel_al ?_ _ | refine bel_gw ?_ _ _ | refine bel_drew ?_ | refine bel_drewN ?_ _)))).mono ?_)
    rintro e w3 ⟨rfl, rfl⟩
    go_wp2_with fail
    (with_reducible refine (T5.out _ (hR2.step (by repeat (first | exact Below.refl _ _ | assumption | refine bel_al ?_ _ | refine bel_gw ?_ _ _ | refine bel_drew ?_ | refine bel_drewN ?_ _)))).mono ?_)
    rintro e wx ⟨rfl, hR, hG⟩
    obtain ⟨W3, ⟨d3, os3⟩, hs3, hg3, rfl, hR3⟩ := rstF (W := W2) (fun W => (gw (gw (W.alloc (bx 0 0)) d1 os1) d2 os2).alloc (bx x1 x2)) (by repeat (first | exact Lays.id | refine Lays.alloc ?_ _ | refine Lays.gw ?_ _ _)) hG hR (by omega)
    dsimp only
    replace hg3 := grown_trans hg2 hg3
    replace hs3 := hs3.trans hs2
    haveI : Sz W3 w.heap.size := ⟨hs3⟩
    clear hR hG hR2 hs2 hg2
    go_wp2
    refine bodyPost_ret (v := .agg #[.int .i64 0, .int .u64 0]) (by simp [results, Try.results39, go_sem]) rfl ?_
    exact ⟨rfl, hR3.step (by repeat (first | exact Below.refl _ _ | assumption | refine bel_al ?_ _ | refine bel_gw ?_ _ _ | refine bel_drew ?_ | refine bel_drewN ?_ _)), grown_gw hg3 (by repeat (first | exact Below.refl _ _ | assumption | refine bel_al ?_ _ | refine bel_gw ?_ _ _ | refine bel_drew ?_ | refine bel_drewN ?_ _))⟩
  · rw [if_pos (.inr hm)]
    rw [hm] at T4
    simp only [Bool.false_eq_true, if_false] at T3
    clear hm
    go_enter Try.func39, Try.ntmps39
    go_wp2_with fail
    (with_reducible refine T1.out.mono ?_)
    rintro e wx ⟨rfl, hR, hG⟩
    obtain ⟨W1, ⟨d1, os1⟩, hs1, hg1, rfl, hR1⟩ := rstF (W := w) (fun W => W.alloc (bx 0 0)) (by repeat (first | exact Lays.id | refine Lays.alloc ?_ _ | refine Lays.gw ?_ _ _)) hG hR (by omega)
    dsimp only
    haveI : Sz W1 w.heap.size := ⟨hs1⟩
    clear hR hG
    go_wp2_with fail
    (with_reducible refine (T2.out _ (hR1.step (by repeat (first | exact Below.refl _ _ | assumption | refine bel_al ?_ _ | refine bel_gw ?_ _ _ | refine bel_drew ?_ | refine bel_drewN ?_ _)))).mono ?_)
    rintro e wx ⟨rfl, hR, hG⟩
    obtain ⟨W2, ⟨d2, os2⟩, hs2, hg2, rfl, hR2⟩ := rstF (W := W1) (fun W => gw (W.alloc (bx 0 0)) d1 os1) (by repeat (first | exact Lays.id | refine Lays.alloc ?_ _ | refine Lays.gw ?_ _ _)) hG hR (by omega)
    dsimp only
    replace hg2 := grown_trans hg1 hg2
    replace hs2 := hs2.trans hs1
    haveI : Sz W2 w.heap.size := ⟨hs2⟩
    clear hR hG hR1 hs1 hg1
    go_wp2_with fail
    (with_reducible refine (T3.out _ (hR2.step (by repeat (first | exact Below.refl _ _ | assumption | refine bel_al ?_ _ | refine bel_gw ?_ _ _ | refine bel_drew ?_ | refine bel_drewN ?_ _)))).mono ?_)
    rintro e w3 ⟨rfl, rfl⟩
    go_wp2_with fail
    (with_reducible refine (T4.out _).mono ?_)
    rintro e w3 ⟨rfl, rfl⟩
    go_wp2_with fail
    (with_reducible refine (T5.out _ (hR2.step (by repeat (first | exact Below.refl _ _ | assumption | refine bel_al ?_ _ | refine bel_gw ?_ _ _ | refine bel_drew ?_ | refine bel_drewN ?_ _)))).mono ?_)
    rintro e wx ⟨rfl, hR, hG⟩
    obtain ⟨W3, ⟨d3, os3⟩, hs3, hg3, rfl, hR3⟩ := rstF (W := W2) (fun W => ((gw (gw (W.alloc (bx 0 0)) d1 os1) d2 os2).alloc (bx x1 x2)).alloc (bx x1 x2)) (by repeat (first | exact Lays.id | refine Lays.alloc ?_ _ | refine Lays.gw ?_ _ _)) hG hR (by omega)
    dsimp only
    replace hg3 := grown_trans hg2 hg3
    replace hs3 := hs3.trans hs2
    haveI : Sz W3 w.heap.size := ⟨hs3⟩
    clear hR hG hR2 hs2 hg2
    go_wp2
    refine bodyPost_ret (v := .agg #[.int .i64 0, .int .u64 0]) (by simp [results, Try.results39, go_sem]) rfl ?_
    exact ⟨rfl, hR3.step (by repeat (first | exact Below.refl _ _ | assumption | refine bel_al ?_ _ | refine bel_gw ?_ _ _ | refine bel_drew ?_ | refine bel_drewN ?_ _)), grown_gw hg3 (by repeat (first | exact Below.refl _ _ | assumption | refine bel_al ?_ _ | refine bel_gw ?_ _ _ | refine bel_drew ?_ | refine bel_drewN ?_ _))⟩
  · rw [if_neg (by rw [hm]; simp)]
    rw [hm] at T4
    simp only [Bool.false_eq_true, if_false] at T3
    clear hm
    go_enter Try.func39, Try.ntmps39
    go_wp2_with fail
    (with_reducible refine T1.out.mono ?_)
    rintro e wx ⟨rfl, hR, hG⟩
    obtain ⟨W1, ⟨d1, os1⟩, hs1, hg1, rfl, hR1⟩ := rstF (W := w) (fun W => W.alloc (bx 0 0)) (by repeat (first | exact Lays.id | refine Lays.alloc ?_ _ | refine Lays.gw ?_ _ _)) hG hR (by omega)
    dsimp only
    haveI : Sz W1 w.heap.size := ⟨hs1⟩
    clear hR hG
    go_wp2_with fail
    (with_reducible refine (T2.out _ (hR1.step (by repeat (first | exact Below.refl _ _ | assumption | refine bel_al ?_ _ | refine bel_gw ?_ _ _ | refine bel_drew ?_ | refine bel_drewN ?_ _)))).mono ?_)
    rintro e wx ⟨rfl, hR, hG⟩
    obtain ⟨W2, ⟨d2, os2⟩, hs2, hg2, rfl, hR2⟩ := rstF (W := W1) (fun W => gw (W.alloc (bx 0 0)) d1 os1) (by repeat (first | exact Lays.id | refine Lays.alloc ?_ _ | refine Lays.gw ?_ _ _)) hG hR (by omega)
    dsimp only
    replace hg2 := grown_trans hg1 hg2
    replace hs2 := hs2.trans hs1
    haveI : Sz W2 w.heap.size := ⟨hs2⟩
    clear hR hG hR1 hs1 hg1
    go_wp2_with fail
    (with_reducible refine (T3.out _ (hR2.step (by repeat (first | exact Below.refl _ _ | assumption | refine bel_al ?_ _ | refine bel_gw ?_ _ _ | refine bel_drew ?_ | refine bel_drewN ?_ _)))).mono ?_)
    rintro e w3 ⟨rfl, rfl⟩
    go_wp2_with fail
    (with_reducible refine (T4.out _).mono ?_)
    rintro e w3 ⟨rfl, rfl⟩
    go_wp2
    refine bodyPost_ret (v := .agg #[.int .i64 x1, .int .u64 x2]) (by simp [results, Try.results39, go_sem]) rfl ?_
    exact ⟨rfl, hR2.step (by repeat (first | exact Below.refl _ _ | assumption | refine bel_al ?_ _ | refine bel_gw ?_ _ _ | refine bel_drew ?_ | refine bel_drewN ?_ _)), grown_gw hg2 (by repeat (first | exact Below.refl _ _ | assumption | refine bel_al ?_ _ | refine bel_gw ?_ _ _ | refine bel_drew ?_ | refine bel_drewN ?_ _))⟩
end Go.Proofs.Ytgpmcpinnaggmaa

/-
  Walk: the law ProcSorts answers true at every input.
-/
import Derived.Test.YtiggbhdokdmhhaaHas
import Derived.Test.YtiggbhdokdmhhaaLAlg
namespace Go.Proofs.Ytiggbhdokdmhhaa
open Go.RowKit Go.Sort Go.Lib

theorem set_b (A : Option Addr) (c : Nat) (l : List Pr) (w : World) (h : Sl w A l) (hn : l.length ≤ 1000000) : Calls Try.prog 32 #[.slice A l.length c] w (RetB w (setB l)) := set_any A c l w h hn
theorem refHas_b (A : Option Addr) (c : Nat) (l : List Pr) (x y : Int) (w : World) (h : Sl w A l) (hn : l.length ≤ 1000000) : Calls Try.prog 35 #[.slice A l.length c, .agg #[.int .i64 x, .int .u64 y]] w (RetB w (decide ((x, y) ∈ l))) := refHas_any A c l x y w h hn
theorem heavy_at (xs : List Sv) (cs : Array Value) (w : World) (H n : Nat) (hH : w.heap.size = H) (hl : xs.length = n) (hcs : cs.toList = svs xs) (hn : n ≤ 1000) :
    Calls Try.prog 14 #[.slice (some ⟨H, 0, none⟩) n n] (w.alloc (.cells cs 30)) (RetB w (hvB xs)) := by subst hH hl; exact heavy_lit xs cs w hcs hn
/-- a cell of an old block -/
def At (w : World) (a : Addr) (v : Value) : Prop := w.cell? a = some v ∧ a.block < w.heap.size
theorem At.step {w w' : World} {a : Addr} {v : Value} (h : At w a v) (hb : Below w.heap.size w w') : At w' a v := ⟨(hb.cell h.2).trans h.1, Nat.lt_of_lt_of_le h.2 hb.size⟩

set_option maxRecDepth 100000 in
set_option maxHeartbeats 4000000 in
theorem procSorts_true (A : Option Addr) (ca : Nat) (l : List Pr) (x y : Int) (w : World) (sa : Sl w A l) (hwf : ∀ p ∈ l, 0 ≤ p.2) :
    Calls Try.prog 8 #[.slice A l.length ca, .agg #[.int .i64 x, .int .u64 y]] w fun e w' => e = .returned (.bool true) ∧ Below w.heap.size w w' := by
  have hB := Below.refl w.heap.size w
  replace sa := sa.step (below_alloc w (bx x y))
  have hb0 := below_alloc w (bx x y)
  cases hh : hvB [⟨A, ca, l⟩]
  · have hl : l.length ≤ 300 := by simpa [hvB] using hh
    have n1 := sortedL_len l
    have n2 := nodesL_len l
    go_enter Try.func8, Try.ntmps8
    go_wp2_with fail
    with_reducible refine (heavy_at [⟨A, ca, l⟩] #[.slice A l.length ca] (w.alloc (bx x y)) (w.heap.size + 1) 1 (by simp) rfl rfl (by omega)).mono ?_
    rw [hh]
    rintro e w1 ⟨rfl, hb⟩
    have p0 : At w1 ⟨w.heap.size, 0, none⟩ (.int .i64 x) := At.step ⟨by simp, by simp⟩ hb
    have p1 : At w1 ⟨w.heap.size, 1, none⟩ (.int .u64 y) := At.step ⟨by simp, by simp⟩ hb
    replace sa := sa.step hb
    replace hB := below_step hb0 hb
    clear hb hb0 hh
    go_wp2_with (at_builtin; refine wpList_append_any _ Try.okP (by rfl) (.tmp 11) (.tmp 12) (by rfl) w1.heap.size (.slice (some ⟨w1.heap.size, 0, none⟩) 0 0) 0 [] (by rfl) (own_empty w1) w1.heap.size A l.length ca (pcs l) (by rfl) (Reads.alloc sa (Nat.le_refl _) _) (pc_one _) (by unfold maxLen; omega) (by omega) (by simp) ?_; intro v1 w2 hown1 hg1 hnil1 hat1; obtain ⟨XA, XC, rfl, _, _⟩ := own_slice hown1; rw [Nat.zero_add, List.nil_append] at hown1; rw [Nat.zero_add]; have sx : Sl w2 XA l := Reads.of_own hown1; clear hown1; have hb : Below w1.heap.size w1 w2 := (below_alloc w1 _).grown hg1 (by simp) (by simp [Value.ownBlock]))
    clear hg1 hnil1 hat1
    replace sa := sa.step hb
    replace p0 := p0.step hb
    replace p1 := p1.step hb
    replace hB := below_step hB hb
    clear hb
    with_reducible refine (sorted_s _ _ l _ sx (by omega)).mono ?_
    rintro e w3 ⟨A1, c1, rfl, s1, hb⟩
    replace sa := sa.step hb
    replace p0 := p0.step hb
    replace p1 := p1.step hb
    replace sx := sx.step hb
    replace hB := below_step hB hb
    clear hb
    have t1 : (setB l != setB l) = false := by simp
    have t2 : (decide ((x, y) ∈ l) != decide ((x, y) ∈ l)) = false := by simp
    go_wp2_with fail
    replace sa : Sl w3.drew A l := sa
    replace sx : Sl w3.drew XA l := sx
    replace s1 : Sl w3.drew A1 (sortedL l) := s1
    replace p0 : At w3.drew ⟨w.heap.size, 0, none⟩ (.int .i64 x) := p0
    replace p1 : At w3.drew ⟨w.heap.size, 1, none⟩ (.int .u64 y) := p1
    replace hB := hB.drew
    have q0 : w3.cell? ⟨w.heap.size, 0, none⟩ = some (.int .i64 x) := p0.1
    have q1 : w3.cell? ⟨w.heap.size, 1, none⟩ = some (.int .u64 y) := p1.1
    go_region_held3 (fun w' => w'.cell? ⟨w.heap.size, 0, none⟩ = some (.int .i64 x) ∧ w'.cell? ⟨w.heap.size, 1, none⟩ = some (.int .u64 y)) (exact ⟨p0.1, p1.1⟩)
      (first
        | (go_at_call 17; (with_reducible refine (refSorted_s _ _ l _ sa (by omega)).mono ?_); rintro e w4 ⟨A2, c2, rfl, s2, hb⟩; replace sa := sa.step hb; replace sx := sx.step hb; replace s1 := s1.step hb; replace p0 := p0.step hb; replace p1 := p1.step hb; replace hB := below_step hB hb; clear hb)
        | (go_at_call 15; (with_reducible refine (refEqual_t _ _ _ _ (sortedL l) (sortedL l) _ s1 s2 (by omega) rfl).mono ?_); rintro e w5 ⟨rfl, hb⟩; replace sa := sa.step hb; replace sx := sx.step hb; replace s1 := s1.step hb; replace p0 := p0.step hb; replace p1 := p1.step hb; replace s2 := s2.step hb; replace hB := below_step hB hb; clear hb)
        | (go_at_call 32; (with_reducible refine (set_b _ _ l _ sx (by omega)).mono ?_); rintro e w6 ⟨rfl, hb⟩; replace sa := sa.step hb; replace sx := sx.step hb; replace p0 := p0.step hb; replace p1 := p1.step hb; replace hB := below_step hB hb; clear hb)
        | (go_at_call 33; (with_reducible refine (refSet_b _ _ l _ sa (by omega) hwf).mono ?_); rintro e w7 ⟨rfl, hb⟩; replace sa := sa.step hb; replace sx := sx.step hb; replace p0 := p0.step hb; replace p1 := p1.step hb; replace hB := below_step hB hb; clear hb)
        | (go_at_call 34; (with_reducible refine (has_b _ _ l _ _ _ sx (by omega)).mono ?_); rintro e w8 ⟨rfl, hb⟩; replace sa := sa.step hb; replace sx := sx.step hb; replace p0 := p0.step hb; replace p1 := p1.step hb; replace hB := below_step hB hb; clear hb)
        | (go_at_call 35; (with_reducible refine (refHas_b _ _ l _ _ _ sa (by omega)).mono ?_); rintro e w9 ⟨rfl, hb⟩; replace sa := sa.step hb; replace sx := sx.step hb; replace p0 := p0.step hb; replace p1 := p1.step hb; replace hB := below_step hB hb; clear hb)
        | (go_at_call 37; (with_reducible refine (nodes_s _ _ l _ sx (by omega)).mono ?_); rintro e w10 ⟨A3, c3, rfl, s3, hb⟩; replace sa := sa.step hb; replace sx := sx.step hb; replace p0 := p0.step hb; replace p1 := p1.step hb; replace hB := below_step hB hb; clear hb)
        | (go_at_call 38; (with_reducible refine (refNodes_s _ _ l _ sa (by omega)).mono ?_); rintro e w11 ⟨A4, c4, rfl, s4, hb⟩; replace sa := sa.step hb; replace sx := sx.step hb; replace p0 := p0.step hb; replace p1 := p1.step hb; replace s3 := s3.step hb; replace hB := below_step hB hb; clear hb)
        | (go_at_call 36; (with_reducible refine (ints_t _ _ _ _ (nodesL l) _ s3 s4 (by omega)).mono ?_); rintro e w12 ⟨rfl, hb⟩; replace sa := sa.step hb; replace sx := sx.step hb; replace p0 := p0.step hb; replace p1 := p1.step hb; replace s3 := s3.step hb; replace s4 := s4.step hb; replace hB := below_step hB hb; clear hb)
        )
    go_wp2_with fail
    with_reducible refine (refEqual_t _ _ _ _ l l _ sx sa (by omega) rfl).mono ?_
    rintro e w20 ⟨rfl, hb⟩
    replace hB := below_step hB hb
    clear hb
    go_wp2_with fail
    with_reducible refine (awake_t _).mono ?_
    rintro e w21 ⟨rfl, hb⟩
    replace hB := below_step hB hb
    clear hb
    go_wp2
    go_ret
    exact ⟨rfl, hB⟩
  · go_enter Try.func8, Try.ntmps8
    go_wp2_with fail
    with_reducible refine (heavy_at [⟨A, ca, l⟩] #[.slice A l.length ca] (w.alloc (bx x y)) (w.heap.size + 1) 1 (by simp) rfl rfl (by omega)).mono ?_
    rw [hh]
    rintro e w1 ⟨rfl, hb⟩
    replace hB := below_step hb0 hb
    clear hb hb0 hh
    go_wp2_with fail
    with_reducible refine (awake_t _).mono ?_
    rintro e w21 ⟨rfl, hb⟩
    replace hB := below_step hB hb
    clear hb
    go_wp2
    go_ret
    exact ⟨rfl, hB⟩

end Go.Proofs.Ytiggbhdokdmhhaa

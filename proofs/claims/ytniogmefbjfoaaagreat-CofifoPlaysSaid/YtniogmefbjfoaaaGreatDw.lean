/-
  Layer 16: contract: due, the packets of what is due of a row.
-/
import Derived.Test.YtniogmefbjfoaaaGreatDv
namespace Go.Proofs.YtniogmefbjfoaaaGreat
set_option linter.unusedSimpArgs false
set_option linter.unusedVariables false
set_option linter.unusedSectionVars false
open Go.RowKit Go.Maps Go.Shelf

attribute [local go_sem] Oper.semAt_some
/-- a row of packets, all of it in new memory -/
structure PmG (base : Nat) (W : World) (v : Value) (ps : List Pm) : Prop where
  row : W.ownsRow base 43 10 v ps.length (pms ps)
  el : ∀ p ∈ ps, PmP base W (ownL v) p
theorem PmG.nil (base : Nat) (W : World) : PmG base W (.slice none 0 0) [] := ⟨World.ownsRow_nil _ _ _ _, fun _ h => by cases h⟩
theorem PmG.app {base : Nat} {X W : World} {v v' : Value} {ps : List Pm} {p : Pm} (h : PmG base X v ps) (hr : W.ownsRow base 43 10 v' (ps.length + 1) (pms ps ++ pms [p])) (hg : X.grownBy W v.ownBlock) (ha : v'.ownBlock = v.ownBlock ∨ v'.ownBlock = some X.heap.size) (hd : PmP base X (ownL v) p) : PmG base W v' (ps ++ [p]) :=
  ⟨by rw [List.length_append, pms_app]; exact hr, fun x hx => by
    rcases List.mem_append.1 hx with h1 | h1
    · exact (h.el x h1).tr (.app hg ha)
    · rw [List.mem_singleton] at h1; subst h1; exact hd.tr (.app hg ha)⟩
/-- blocks that are not its own are written -/
theorem PmG.gr {base : Nat} {X W : World} {v : Value} {ps : List Pm} {C : List Nat} (h : PmG base X v ps) (hg : Gr C X W) (hC : ∀ i ∈ C, i < base) : PmG base W v ps :=
  ⟨own_same h.row (fun i hi => hg.blk i (h.row.lt i hi).2 (fun hm => by have := hC i hm; have := (h.row.lt i hi).1; omega)), fun p hp => by
    have h1 := ((h.el p hp).re (D := C ++ ownL v) (fun i hi => by
      rcases List.mem_append.1 hi with h2 | h2
      · exact .inr (.inl (hC i h2))
      · exact .inl h2)).tr (.of (hg.mono' (fun i hi => List.mem_append_left _ hi)))
    exact h1.re (fun i hi => .inl (List.mem_append_right _ hi))⟩
theorem PmG.step {base : Nat} {X W : World} {v : Value} {ps : List Pm} (h : PmG base X v ps) (hb : Below X.heap.size X W) : PmG base W v ps := h.gr (C := []) (.of hb) (fun _ h => by cases h)
theorem PmG.lo {base lo : Nat} {W : World} {v : Value} {ps : List Pm} (h : PmG base W v ps) (hl : lo ≤ base) : PmG lo W v ps := ⟨own_lo h.row hl, fun p hp => (h.el p hp).lo hl⟩
theorem Gr.put (l : Nat) (W : World) (o : Obj) : Gr [l] W (W.putObj l o) := ⟨rfl, rfl, rfl, by simp, fun i _ hc => World.putObj_heap_other (by simpa using hc)⟩
/-- the blocks from B on -/
def rgB (B : Nat) (W : World) : List Nat := (List.range W.heap.size).filter (fun i => decide (B ≤ i))
theorem mem_rgB {B i : Nat} {W : World} : i ∈ rgB B W ↔ B ≤ i ∧ i < W.heap.size := by
  unfold rgB
  rw [List.mem_filter, List.mem_range, decide_eq_true_eq]
  exact And.comm
theorem rgB_top (W : World) : rgB W.heap.size W = [] := by
  unfold rgB
  rw [List.filter_eq_nil_iff]
  intro a ha
  rw [List.mem_range] at ha
  simp; omega
/-- what the region reads -/
def DuS (s0 x : Nat) (n : Int) (rg : Nat) (cn : Int) (w' : World) : Prop := w'.cell? ⟨s0, 0, none⟩ = some (.pointer (some ⟨x, 0, none⟩)) ∧ w'.cell? ⟨s0 + 1 + 1, 0, none⟩ = some (.int .i64 n) ∧ w'.cell? ⟨s0 + 1 + 1 + 1, 0, none⟩ = some (.pointer (some ⟨rg, 0, none⟩)) ∧ w'.cell? ⟨rg, 0, none⟩ = some (.int .u64 cn)
theorem DuS.gr {s0 x : Nat} {n : Int} {rg : Nat} {cn : Int} {W W' : World} {C : List Nat} (h : DuS s0 x n rg cn W) (hb : Gr C W W') (hC : ∀ i ∈ C, i ≠ s0 ∧ i ≠ s0 + 1 + 1 ∧ i ≠ s0 + 1 + 1 + 1 ∧ i ≠ rg) : DuS s0 x n rg cn W' := by
  have key : ∀ {b : Nat} {u : Value}, W.cell? ⟨b, 0, none⟩ = some u → b ∉ C → W'.cell? ⟨b, 0, none⟩ = some u := fun {b u} h1 h2 => by
    rw [World.cell?_of_block (w := W) (hb.blk b (World.block_lt_of_cell? W _ h1) h2)]
    exact h1
  exact ⟨key h.1 (fun hm => (hC _ hm).1 rfl), key h.2.1 (fun hm => (hC _ hm).2.1 rfl), key h.2.2.1 (fun hm => (hC _ hm).2.2.1 rfl), key h.2.2.2 (fun hm => (hC _ hm).2.2.2 rfl)⟩
theorem DuS.step {s0 x : Nat} {n : Int} {rg : Nat} {cn : Int} {W W' : World} (h : DuS s0 x n rg cn W) (hb : Below W.heap.size W W') : DuS s0 x n rg cn W' := h.gr (C := []) (.of hb) (fun _ h => by cases h)
theorem reads_hd1x (W : World) (m : Nat) (d : Hd) [h : BoxAt W m #[.int .i64 d.d, .int .u64 d.c, .int .u64 d.s, .int .u64 d.i] 93] : Reads W W.heap.size 4 (some ⟨m, 0, none⟩) 1 (hcs [d]) :=
  ⟨rfl, fun _ => ⟨_, _, rfl, h.lt, fun j u hu => by
    match j, hu with
    | 0, hu => simp [hcs, hc] at hu; subst hu; rw [cell?_box]; rfl
    | 1, hu => simp [hcs, hc] at hu; subst hu; rw [cell?_box]; rfl
    | 2, hu => simp [hcs, hc] at hu; subst hu; rw [cell?_box]; rfl
    | 3, hu => simp [hcs, hc] at hu; subst hu; rw [cell?_box]; rfl
    | j + 4, hu => simp [hcs, hc] at hu⟩⟩
theorem reads_pm1x (W : World) (m : Nat) (p : Pm) [h : BoxAt W m #[.int .i64 p.x.k, .int .i64 p.x.n, .int .u64 p.x.i, .int .i64 p.x.hp, .slice p.HA p.x.hs.length p.hc, .slice p.BA p.x.bs.length p.bc, .int .i64 p.x.an, .int .u64 p.x.ai, .int .u64 p.x.sq, .slice none 0 0] 43] : Reads W W.heap.size 10 (some ⟨m, 0, none⟩) 1 (pms [p]) :=
  ⟨rfl, fun _ => ⟨_, _, rfl, h.lt, fun j u hu => by
    have hj : (pmc p)[j]? = some u := by simpa [pms] using hu
    rw [Nat.zero_add, cell?_box, ← hj]
    simp [pmc]⟩⟩
/-- while packets are made: D: the loop's block, s: the frame's boxes -/
structure DuJ (W0 : World) (D s rg : Nat) (m : En) (n : Int) (r : Rw) (now above : Int) (A : Option Addr) (c : Nat) (k : Nat) (W : World) : Prop where
  g : Gr [rg, s, D + 1] W0 W
  z : W0.heap.size = D ∧ D + 2 ≤ W.heap.size
  p : ∃ v ps, BoxAt W s #[v] 49 ∧ PmG (D + 2) W v ps ∧ ps.map Pm.x = m.dueK n r above k
  r : BoxAt W rg (rwcs r.cn r.rl r.ba A r.bx.length c r.ak (r.stK now above k).st) 70
theorem DuJ.put {W0 : World} {D s rg : Nat} {m : En} {n : Int} {r : Rw} {now above : Int} {A : Option Addr} {c k : Nat} {W : World} (h : DuJ W0 D s rg m n r now above A c k W) (hs : s < D) (hr : rg < D) (o : Obj) : DuJ W0 D s rg m n r now above A c k (W.putObj (D + 1) o) := by
  have hg := Gr.put (D + 1) W o
  obtain ⟨v, ps, h1, h2, h3⟩ := h.p
  exact ⟨h.g.trans (hg.mono' (by simp)), ⟨h.z.1, by rw [World.putObj_size]; exact h.z.2⟩, ⟨v, ps, ⟨by rw [hg.blk s h1.lt (by simp; omega)]; exact h1.eq⟩, h2.gr hg (by simp), h3⟩, ⟨by rw [hg.blk rg h.r.lt (by simp; omega)]; exact h.r.eq⟩⟩
theorem DuJ.below {W0 : World} {D s rg : Nat} {m : En} {n : Int} {r : Rw} {now above : Int} {A : Option Addr} {c k : Nat} {W W' : World} (h : DuJ W0 D s rg m n r now above A c k W) (hb : Below W.heap.size W W') : DuJ W0 D s rg m n r now above A c k W' := by
  obtain ⟨v, ps, h1, h2, h3⟩ := h.p
  exact ⟨h.g.trans (.of hb), ⟨h.z.1, Nat.le_trans h.z.2 hb.size⟩, ⟨v, ps, ⟨by rw [hb.block s h1.lt]; exact h1.eq⟩, h2.step hb, h3⟩, ⟨by rw [hb.block rg h.r.lt]; exact h.r.eq⟩⟩
theorem RkD.put {lo : Nat} {ba : Int} {L : List (List Int)} {k : Nat} {x : Int × Bd} {W : World} (h : RkD lo ba L k x W) {l : Nat} (hl : l < lo) (o : Obj) : RkD lo ba L k x (W.putObj l o) :=
  ⟨h.s, h.b, ⟨(RO.tr (C := [l]) ⟨h.r.r.1, fun _ a ha hm => by have := h.r.n a ha; simp at hm; omega⟩ (.of (Gr.put l W o))).re (fun _ h => by cases h), h.r.n, NF.tr (E := [l]) (k := 1) (xs := bcs x.2.bs) h.r.f ⟨h.r.r.1, fun _ a ha hm => by have := h.r.n a ha; simp at hm; omega⟩ (.of (Gr.put l W o))⟩⟩
theorem BdsN.over {B : Nat} {X W : World} {A : Option Addr} {ds : List Bd} {C : List Nat} (h : BdsN X B A ds) (hg : Gr C X W) (hC : ∀ i ∈ C, i < B ∨ X.heap.size ≤ i) : BdsR W A ds := by
  have h1 : Bds X (C.filter (fun i => decide (i < B))) A ds := h.ro (fun i hi => by simpa using (List.mem_filter.1 hi).2)
  have h2 : Bds X C A ds := h1.re (fun i hi => by
    rcases hC i hi with h3 | h3
    · exact .inl (List.mem_filter.2 ⟨hi, by simpa using h3⟩)
    · exact .inr h3)
  exact (h2.tr (.of hg)).rd
theorem Gr.less {X W : World} {C D : List Nat} (h : Gr C X W) (hs : ∀ i ∈ C, i ∈ D ∨ X.heap.size ≤ i) : Gr D X W := ⟨h.os, h.tape, h.out, h.size, fun i hi hd => h.blk i hi (fun hc => by
  rcases hs i hc with h1 | h1
  · exact hd h1
  · omega)⟩
theorem noDef {ops : Array Oper} (h : ops.all (fun o => match o.op with | .defer _ => false | _ => true) = true) : ∀ (i : Nat) (o : Oper), ops[i]? = some o → ∀ c, o.op ≠ .defer c := fun i o ho c e => by
  have h1 := Array.all_eq_true.1 h i (Array.getElem?_eq_some_iff.1 ho).1
  rw [(Array.getElem?_eq_some_iff.1 ho).2, e] at h1
  cases h1
section
variable {E C : List Nat} {x : Nat} {m : En} {rb fb : Nat} {rp cp : Int → Nat}
theorem dueK_len (m : En) (n : Int) (r : Rw) (above : Int) : ∀ k, (m.dueK n r above k).length ≤ k
  | 0 => by simp [En.dueK]
  | k + 1 => by
    have ih := dueK_len m n r above k
    unfold En.dueK at ih ⊢
    rw [List.range_succ, List.flatMap_append, List.flatMap_singleton, List.length_append]
    unfold En.due1 at ih ⊢
    split
    · simp only [List.length_cons, List.length_nil]; omega
    · simp only [List.length_nil]; omega
theorem dueK_no {m : En} {n : Int} {r : Rw} {above : Int} {k : Nat} (h : ¬ above < r.ba + 1 + k) : m.dueK n r above (k + 1) = m.dueK n r above k := by
  unfold En.dueK
  rw [List.range_succ, List.flatMap_append, List.flatMap_singleton]
  unfold En.due1
  rw [if_neg h, List.append_nil]
theorem dueK_yes {m : En} {n : Int} {r : Rw} {above : Int} {k : Nat} (h : above < r.ba + 1 + k) : m.dueK n r above (k + 1) = m.dueK n r above k ++ [m.data (r.bx.getD k []) [⟨n, r.cn, r.ba + 1 + k, 0⟩]] := by
  unfold En.dueK
  rw [List.range_succ, List.flatMap_append, List.flatMap_singleton]
  unfold En.due1
  rw [if_pos h]
theorem stK_no {r : Rw} {now above : Int} {k : Nat} (h : ¬ above < r.ba + 1 + k) : r.stK now above (k + 1) = r.stK now above k := by
  unfold Rw.stK
  rw [List.range_succ, List.any_append]
  simp [h]
theorem stK_yes {r : Rw} {now above : Int} {k : Nat} (h : above < r.ba + 1 + k) : (r.stK now above (k + 1)).st = now := by
  unfold Rw.stK
  rw [List.range_succ, List.any_append]
  simp [h]
theorem stK_b {r : Rw} (h : RwOk r) {now : Int} (n0 : 0 ≤ now) (n1 : now ≤ 18446744073709551615) (above : Int) (k : Nat) : 0 ≤ (r.stK now above k).st := by
  have := h.s0
  unfold Rw.stK
  simp only
  split <;> omega
theorem stK_t {r : Rw} (h : RwOk r) {now : Int} (n0 : 0 ≤ now) (n1 : now ≤ 18446744073709551615) (above : Int) (k : Nat) : (r.stK now above k).st ≤ 18446744073709551615 := by
  have := h.s1
  unfold Rw.stK
  simp only
  split <;> omega
def RetDueP (w : World) (E : List Nat) (rg : Nat) (X : List Pk) (r' : Rw) (e : Ending) (w' : World) : Prop := ∃ v ps, e = .returned v ∧ PmG w.heap.size w' v ps ∧ ps.map Pm.x = X ∧ RwM w' (rgB w.heap.size w' ++ E) rg r' ∧ Gr [rg] w w'
set_option maxRecDepth 100000 in
set_option maxHeartbeats 4000000 in
theorem due_s (w : World) (h : EnM w E C x m rb fb rp cp) (n : Int) (hn : m.oth n) (now above : Int) (now0 : 0 ≤ now) (now1 : now ≤ 18446744073709551615) : Calls Tryz.prog 40 #[.pointer (some ⟨x, 0, none⟩), .int .u64 now, .int .i64 n, .pointer (some ⟨rp n, 0, none⟩), .int .u64 above] w
    (RetDueP w E (rp n) (m.due n (m.rw n) above) ((m.rw n).dueR now above)) := by
  obtain ⟨⟨hok, A, c, ds, hb, hds, hmap, hcl⟩, hrC⟩ := h.ro n hn
  haveI := hb
  haveI := h.bx
  have hl : ds.length = (m.rw n).bx.length := by rw [← hmap, List.length_map]
  have hcap : ds.length ≤ c := by rw [hl]; exact hcl
  have TW := hide (fun W (h : BdsR W A ds) => due_w (m.rw n).ba A c ds W h (by have := hok.bl; omega) hok.b0 (by have := hok.bm; omega) (fun d hd => hok.bb _ (by rw [← hmap]; exact List.mem_map_of_mem hd)) hcap)
  have HD := hide hds.rd
  rw [hl] at TW
  refine (callsIn_wide (n := 5)).1 ?_
  refine callsIn_of_wp_marks Tryz.func40 rfl trivial ?_ rfl
  simp only [Tryz.ntmps40, List.size_toArray, List.length_cons, List.length_nil, Nat.reduceAdd, Nat.reduceSub, Array.replicate_succ, Array.replicate_zero, List.push_toArray, List.append_toArray, List.nil_append, List.cons_append]
  gi_wp2_with (refine ⟨trivial, ?_⟩; gi_at_call 63; refine (callsIn_wide.2 (TW.out _ (HD.out.step blw))).mono ?_; rintro e w1 ⟨A1, c1, ds1, rfl, hb3, hb1, hm1, hN1, hw1⟩; haveI : Stp _ w1 := ⟨hw1⟩; haveI := hb3; haveI := hb1)
  have zx : x < w.heap.size := h.bx.lt
  have zr : rp n < w.heap.size := hb.lt
  have z1 : w.heap.size + 1 + 1 + 1 + 1 + 1 + 1 + 1 < w1.heap.size := by simpa using hb3.lt
  have hxr : x ≠ rp n := fun e => h.xE (by rw [e]; exact h.CE _ hrC)
  have hg3 := hb3
  have hg1 := hb1
  simp only [World.size_alloc] at hg3 hg1 hN1
  have HLD : Hid (ds1.length = (m.rw n).due) := hide (by
    have := congrArg List.length hm1
    rw [List.length_map, List.length_take, List.length_map, hl] at this
    unfold Rw.due
    omega)
  have HL8 : Hid (ds1.length ≤ 8) := hide (by rw [HLD.out]; unfold Rw.due; omega)
  have HLB : Hid (∀ d ∈ ds1, d.bs.length ≤ 1000000) := hide (fun d hd => by
    have h1 : d.bs ∈ ds1.map Bd.bs := List.mem_map_of_mem hd
    rw [hm1, hmap] at h1
    have := hok.bb _ (List.mem_of_mem_take h1)
    omega)
  refine wpIn_range16 (gf := 82) rfl (enters_of Tryz.func82 (by kernel_rfl) rfl) (encs := encD) (fun _ => rfl) ds1.length (DuJ w1 w1.heap.size (w.heap.size + 1 + 1 + 1 + 1 + 1) (rp n) m n (m.rw n) now above A c) (RkD (w1.heap.size + 2) (m.rw n).ba (ds1.map Bd.bs)) ?seq ?h0
    (fun k W o hJ => hJ.put (by omega) (by omega) o) (fun k y W o hR => hR.put (by omega) o)
    (fun y => { tmps := #[.pointer (some ⟨x, 0, none⟩), .int .u64 now, .int .i64 n, .pointer (some ⟨rp n, 0, none⟩), .int .u64 above, .pointer (some ⟨w.heap.size, 0, none⟩), .pointer (some ⟨w.heap.size + 1, 0, none⟩), .pointer (some ⟨w.heap.size + 1 + 1, 0, none⟩), .pointer (some ⟨w.heap.size + 1 + 1 + 1, 0, none⟩), .pointer (some ⟨w.heap.size + 1 + 1 + 1 + 1, 0, none⟩), .slice none 0 0, .pointer (some ⟨w.heap.size + 1 + 1 + 1 + 1 + 1, 0, none⟩), .int .u64 y.1, .slice y.2.A y.2.bs.length y.2.c, .pointer (some ⟨rp n, 0, none⟩), .pointer (some ⟨rp n, 0, none⟩), .pointer (some ⟨rp n, 2, none⟩), sndV (m.rw n).ba A (m.rw n).bx.length c, .func (.func 82) #[] #[.pointer (some ⟨w.heap.size + 1 + 1 + 1 + 1 + 1 + 1 + 1, 0, none⟩), .pointer (some ⟨w.heap.size + 1 + 1 + 1 + 1 + 1 + 1, 0, none⟩)], .int .u64 y.1, .slice y.2.A y.2.bs.length y.2.c, undef, undef, undef, undef, undef, undef, undef, undef, undef, undef, undef, undef, undef, undef, undef, undef, undef, undef, undef, undef, undef, undef], defers := [] }) ?assign ?body ?done
  case seq =>
    intro W hbW hJ0 hD hY
    exact due1_in 4 (w1.heap.size + 1) w1.heap.size (w.heap.size + 1 + 1 + 1 + 1 + 1 + 1) (w.heap.size + 1 + 1 + 1 + 1 + 1 + 1 + 1) (w1.heap.size + 2) (m.rw n).ba A1 c1 _ ds1 _ hok.b0 (by have := hok.bm; omega) HL8.out HLB.out
      (fun k W W' hJ hb => hJ.below hb)
      (fun k W hJ => ⟨⟨by rw [hJ.g.blk _ hg3.lt (by simp; omega)]; exact hg3.eq⟩, ⟨by rw [hJ.g.blk _ hg1.lt (by simp; omega)]; exact hg1.eq⟩, hN1.over hJ.g (by intro i hi; simp at hi; omega), hJ.z.2⟩)
      W (Array.getElem?_eq_some_iff.1 hD).1 (by have := hJ0.z.2; omega) hY hJ0
  case h0 =>
    intro o
    exact ⟨.of (below_step (below_alloc _ _) (below_alloc _ _)), ⟨rfl, by simp⟩, ⟨_, [], (inferInstance : BoxAt _ (w.heap.size + 1 + 1 + 1 + 1 + 1) #[.slice none 0 0] _), PmG.nil _ _, rfl⟩, (inferInstance : BoxAt _ (rp n) _ _)⟩
  case assign =>
    intro y W K hK
    gi_wp2
    exact hK
  case body =>
    intro k y W hk hJ hR
    obtain ⟨v, ps, hv, hps, hmp⟩ := hJ.p
    have hg := hJ.g
    have hzW := hJ.z.2
    have hold : ∀ {i cs t}, BoxAt w1 i cs t → i ≠ rp n → i ≠ w.heap.size + 1 + 1 + 1 + 1 + 1 → BoxAt W i cs t := fun {i cs t} hb h1 h2 => ⟨by rw [hg.blk i hb.lt (by have := hb.lt; simp; omega)]; exact hb.eq⟩
    haveI b0 : BoxAt W w.heap.size #[.pointer (some ⟨x, 0, none⟩)] 28 := hold inferInstance (by omega) (by omega)
    haveI b1 : BoxAt W (w.heap.size + 1) #[.int .u64 now] 22 := hold inferInstance (by omega) (by omega)
    haveI b2 : BoxAt W (w.heap.size + 1 + 1) #[.int .i64 n] 3 := hold inferInstance (by omega) (by omega)
    haveI b3 : BoxAt W (w.heap.size + 1 + 1 + 1) #[.pointer (some ⟨rp n, 0, none⟩)] 65 := hold inferInstance (by omega) (by omega)
    haveI b4 : BoxAt W (w.heap.size + 1 + 1 + 1 + 1) #[.int .u64 above] 22 := hold inferInstance (by omega) (by omega)
    haveI bx : BoxAt W x #[.int .i64 m.n, .int .u64 m.i, .map (some rb), .map (some fb)] 64 := hold inferInstance hxr (by omega)
    haveI br := hJ.r
    haveI := hv
    have HYL : Hid (y.2.bs.length ≤ 1000000) := hide (by
      rw [hR.b]
      cases hgk : ds1[k]? with
      | none => simp [List.getD, hgk]
      | some d => simpa [List.getD, hgk] using HLB.out d (List.mem_of_getElem? hgk))
    by_cases hab : above < y.1
    · have d1 : decide (above < y.1) = true := decide_eq_true hab
      have HAB := hide hab
      have hpl : ps.length ≤ 8 := by
        have h1 := congrArg List.length hmp
        rw [List.length_map] at h1
        have := dueK_len m n (m.rw n) above k
        have := HL8.out
        omega
      haveI : LtN (w.heap.size + 1) (w1.heap.size + 2) := ⟨by omega⟩
      haveI : LtN (w.heap.size + 1 + 1 + 1) (w1.heap.size + 2) := ⟨by omega⟩
      haveI : LtN (w.heap.size + 1 + 1 + 1 + 1 + 1) (w1.heap.size + 2) := ⟨by omega⟩
      haveI : LtN (rp n) (w1.heap.size + 2) := ⟨by omega⟩
      haveI : LtN (rp n) w.heap.size := ⟨zr⟩
      have hm1k : (ds1.map Bd.bs).getD k [] = (m.rw n).bx.getD k [] := by
        rw [hm1, hmap]
        simp only [List.getD_eq_getElem?_getD, List.getElem?_take]
        rw [if_pos (by rw [HLD.out] at hk; unfold Rw.due at hk; omega)]
      clear hab
      gi_wp2
      refine wp_region_inRound (S := DuS w.heap.size x n (rp n) (m.rw n).cn) (by kernel_rfl) (noDef (by kernel_rfl)) (fun ⟨_, _, h⟩ => h) ?_
      have HR := hide hR
      have HPS := hide hps
      have HMP := hide hmp
      have HJ := hide hJ
      have hS : DuS w.heap.size x n (rp n) (m.rw n).cn W.drew := ⟨by rw [cell?_box]; rfl, by rw [cell?_box]; rfl, by rw [cell?_box]; rfl, by rw [cell?_box]; rfl⟩
      clear hR hps hmp hJ
      refine wpAnyH_take (i := 1) (v := .pointer (some ⟨x, 0, none⟩)) rfl (by kernel_rfl) (by kernel_rfl) (by kernel_rfl) (fun _ _ _ h => h) (Or.inl ⟨by rfl, ?_⟩) hS ?_
      · intro w' hSw
        obtain ⟨h2, h3, h4, h5⟩ := hSw
        go_simp
      simp only [Act.put, List.setIfInBounds_toArray, List.set_cons_zero, List.set_cons_succ]
      refine wpAnyH_take (i := 2) (v := .slice y.2.A y.2.bs.length y.2.c) rfl (by kernel_rfl) (by kernel_rfl) (by kernel_rfl) (fun _ _ _ h => h) (Or.inl ⟨by rfl, ?_⟩) hS ?_
      · intro w' hSw
        obtain ⟨h2, h3, h4, h5⟩ := hSw
        go_simp
      simp only [Act.put, List.setIfInBounds_toArray, List.set_cons_zero, List.set_cons_succ]
      refine wpAnyH_take (i := 3) (v := .int .i64 n) rfl (by kernel_rfl) (by kernel_rfl) (by kernel_rfl) (fun _ _ _ h => h) (Or.inl ⟨by rfl, ?_⟩) hS ?_
      · intro w' hSw
        obtain ⟨h2, h3, h4, h5⟩ := hSw
        go_simp
      simp only [Act.put, List.setIfInBounds_toArray, List.set_cons_zero, List.set_cons_succ]
      refine wpAnyH_take (i := 4) (v := .pointer (some ⟨rp n, 0, none⟩)) rfl (by kernel_rfl) (by kernel_rfl) (by kernel_rfl) (fun _ _ _ h => h) (Or.inl ⟨by rfl, ?_⟩) hS ?_
      · intro w' hSw
        obtain ⟨h2, h3, h4, h5⟩ := hSw
        go_simp
      simp only [Act.put, List.setIfInBounds_toArray, List.set_cons_zero, List.set_cons_succ]
      refine wpAnyH_take (i := 5) (v := .pointer (some ⟨rp n, 0, none⟩)) rfl (by kernel_rfl) (by kernel_rfl) (by kernel_rfl) (fun _ _ _ h => h) (Or.inl ⟨by rfl, ?_⟩) hS ?_
      · intro w' hSw
        obtain ⟨h2, h3, h4, h5⟩ := hSw
        go_simp
      simp only [Act.put, List.setIfInBounds_toArray, List.set_cons_zero, List.set_cons_succ]
      refine wpAnyH_take (i := 6) (v := .pointer (some ⟨rp n, 0, none⟩)) rfl (by kernel_rfl) (by kernel_rfl) (by kernel_rfl) (fun _ _ _ h => h) (Or.inl ⟨by rfl, ?_⟩) hS ?_
      · intro w' hSw
        obtain ⟨h2, h3, h4, h5⟩ := hSw
        go_simp
      simp only [Act.put, List.setIfInBounds_toArray, List.set_cons_zero, List.set_cons_succ]
      refine wpAnyH_take (i := 7) (v := .int .u64 (m.rw n).cn) rfl (by kernel_rfl) (by kernel_rfl) (by kernel_rfl) (fun _ _ _ h => h) (Or.inl ⟨by rfl, ?_⟩) hS ?_
      · intro w' hSw
        obtain ⟨h2, h3, h4, h5⟩ := hSw
        go_simp
      simp only [Act.put, List.setIfInBounds_toArray, List.set_cons_zero, List.set_cons_succ]
      refine wpAnyH_take (i := 8) (v := .int .u64 y.1) rfl (by kernel_rfl) (by kernel_rfl) (by kernel_rfl) (fun _ _ _ h => h) (Or.inl ⟨by rfl, ?_⟩) hS ?_
      · intro w' hSw
        obtain ⟨h2, h3, h4, h5⟩ := hSw
        go_simp
      simp only [Act.put, List.setIfInBounds_toArray, List.set_cons_zero, List.set_cons_succ]
      refine wpAnyH_take (i := 9) (v := .agg #[.int .i64 n, .int .u64 (m.rw n).cn, .int .u64 y.1, .int .u64 0]) rfl (by kernel_rfl) (by kernel_rfl) (by kernel_rfl) (fun _ _ _ h => h) (Or.inl ⟨by rfl, ?_⟩) hS ?_
      · intro w' hSw
        obtain ⟨h2, h3, h4, h5⟩ := hSw
        go_simp
      simp only [Act.put, List.setIfInBounds_toArray, List.set_cons_zero, List.set_cons_succ]
      refine wpAnyH_ready (rs := [0, 10]) (by kernel_rfl) (by simp) ?_
      refine AllReadyH.cons rfl (fun K hK => ?_) (AllReadyH.cons rfl (fun K hK => ?_) AllReadyH.nil)
      · go_simp
        refine hK.out _ _ hS (fun hS => ?_)
        clear hK K
        (try simp only [Act.put, List.setIfInBounds_toArray, List.set_cons_zero, List.set_cons_succ])
        refine wpAnyH_ready (rs := [10]) (by kernel_rfl) (by simp) ?_
        refine AllReadyH.cons rfl (fun K hK => ?_) AllReadyH.nil
        go_simp
        refine hK.out _ _ (DuS.step hS (below_alloc _ _)) (fun hS => ?_)
        clear hK K
        (try simp only [Act.put, List.setIfInBounds_toArray, List.set_cons_zero, List.set_cons_succ])
        refine wpAnyH_ready (rs := [11]) (by kernel_rfl) (by simp) ?_
        refine AllReadyH.cons rfl (fun K hK => ?_) AllReadyH.nil
        go_simp
        refine (data_s (hs := [⟨n, (m.rw n).cn, y.1, 0⟩]) _ m.n m.i _ _ inferInstance y.2.A y.2.c y.2.bs _ 1 ((HR.out.r.r.1.below blw).more (Blw.size inferInstance)) HYL.out (reads_hd1x _ _ _) (by simp)).mono ?_
        rintro e w2 ⟨p, rfl, hpx, hpp, hb2⟩
        haveI : Stp _ w2 := ⟨hb2⟩
        have HX := hide hpx
        have HPP := hide hpp
        refine hK.out _ _ (DuS.step hS hb2) (fun hS => ?_)
        clear hpx hpp hb2
        clear hK K
        (try simp only [Act.put, List.setIfInBounds_toArray, List.set_cons_zero, List.set_cons_succ])
        refine wpAnyH_ready (rs := [12]) (by kernel_rfl) (by simp) ?_
        refine AllReadyH.cons rfl (fun K hK => ?_) AllReadyH.nil
        go_simp
        refine hK.out _ _ (DuS.step hS (below_alloc _ _)) (fun hS => ?_)
        clear hK K
        (try simp only [Act.put, List.setIfInBounds_toArray, List.set_cons_zero, List.set_cons_succ])
        refine wpAnyH_ready (rs := [13]) (by kernel_rfl) (by simp) ?_
        refine AllReadyH.cons rfl (fun K hK => ?_) AllReadyH.nil
        have zw2 : w1.heap.size + 2 ≤ w2.heap.size := Nat.le_trans hzW (Blw.size (a := W) inferInstance)
        (refine step_append_x Tryz.okPm rfl (.tmp 24) (.tmp 36) rfl (w1.heap.size + 2) v ps.length (pms ps) 1 (pms [p]) ?_ ?_ ?_ ?_ ?_ ?_ ?_ ?_; go_must ((focus (first | rfl | (simp [Act.eval, Act.put]; done))); (focus (exact own_tc HPS.out.row)); (focus (refine ⟨_, _, by first | rfl | (simp [Act.eval, Act.put]; done), ?_⟩; exact reads_pm1x _ _ p)); (focus (exact pms_one _)); (focus (unfold maxLen; omega)); (focus omega); (focus (first | omega | (simp; done) | (simp; omega) | exact blw.size | exact BoxAt.lt (n := w.heap.size) inferInstance)); intro v7 w7 ho7 hg7 ha7; obtain ⟨A7, c7, rfl, _, _⟩ := own_slice ho7; haveI : StpB (w1.heap.size + 2) _ w7 := ⟨grown_belowT hg7 (Nat.le_trans hzW (Blw.size (a := W) inferInstance)) (fun q hq => (HPS.out.row.lt q hq).1)⟩; have O7 := hide (PmG.app (p := p) (HPS.out.step blw) ho7 hg7 ha7 (((HPP.out.re (D := ownL v) (fun i hi => .inr (.inl (Nat.lt_of_lt_of_le (HPS.out.row.lt i (mem_ownL.1 hi)).2 (Blw.size (a := W) inferInstance))))).lo (Nat.le_trans hzW (Blw.size (a := W) inferInstance))).tr (.bel blw))); have HG7 := hide (((Gr.of (C := ownL v) (blw (a := W))).trans (Gr.grown hg7 (fun k hk => mem_ownL.2 hk)))); have hS7 := hS.gr (C := ownL v) (Gr.grown hg7 (fun k hk => mem_ownL.2 hk)) (fun i hi => by have := (HPS.out.row.lt i (mem_ownL.1 hi)).1; omega); refine hK.out _ _ hS7 (fun hS => ?_); clear ho7 hg7 ha7 hS7))
        clear hK K
        (try simp only [Act.put, List.setIfInBounds_toArray, List.set_cons_zero, List.set_cons_succ])
        refine wpAnyH_ready (rs := [14]) (by kernel_rfl) (by simp) ?_
        refine AllReadyH.cons rfl (fun K hK => ?_) AllReadyH.nil
        go_simp
        refine hK.out _ _ (hS.gr (C := [w.heap.size + 1 + 1 + 1 + 1 + 1]) (Gr.set (m := w.heap.size + 1 + 1 + 1 + 1 + 1) _ _ _ (by simp)) (by intro i hi; simp at hi; omega)) (fun hS => ?_)
        clear hK K
        (try simp only [Act.put, List.setIfInBounds_toArray, List.set_cons_zero, List.set_cons_succ])
        refine wpAnyH_done (by kernel_rfl) ?_ _
        clear hS
        gi_wp2
        have hoV : ∀ i ∈ ownL v, w1.heap.size + 2 ≤ i := fun i hi => (HPS.out.row.lt i (mem_ownL.1 hi)).1
        have HGF := hide (((HG7.out.mono' (D := (w.heap.size + 1 + 1 + 1 + 1 + 1) :: rp n :: ownL v) (fun i hi => by simp [hi])).trans (Gr.set _ 0 (.slice A7 (ps.length + 1) c7) (by simp : w.heap.size + 1 + 1 + 1 + 1 + 1 ∈ (w.heap.size + 1 + 1 + 1 + 1 + 1) :: rp n :: ownL v))).trans (Gr.set _ 5 (.int .u64 now) (by simp : rp n ∈ (w.heap.size + 1 + 1 + 1 + 1 + 1) :: rp n :: ownL v)))
        have hnm : ∀ j, w1.heap.size ≤ j → j ≤ w1.heap.size + 1 → j ∉ (w.heap.size + 1 + 1 + 1 + 1 + 1) :: rp n :: ownL v := fun j j1 j2 hm => by
          rcases List.mem_cons.1 hm with e | hm
          · omega
          rcases List.mem_cons.1 hm with e | hm
          · omega
          · have := hoV j hm; omega
        refine ⟨HGF.out.blk _ (by omega) (hnm _ (by omega) (by omega)), HGF.out.blk _ (by omega) (hnm _ (by omega) (by omega)), ?_, ⟨rfl, Nat.le_trans hzW HGF.out.size⟩, ⟨.slice A7 (ps.length + 1) c7, ps ++ [p], inferInstance, O7.out.gr (C := [w.heap.size + 1 + 1 + 1 + 1 + 1, rp n]) ((Gr.set (m := w.heap.size + 1 + 1 + 1 + 1 + 1) _ 0 (.slice A7 (ps.length + 1) c7) (by simp)).trans (Gr.set (m := rp n) _ 5 (.int .u64 now) (by simp))) (by intro i hi; simp at hi; omega), ?_⟩, ?_⟩
        · exact ((HJ.out.g.mono' (D := [rp n, w.heap.size + 1 + 1 + 1 + 1 + 1, w1.heap.size + 1] ++ ownL v) (fun i hi => List.mem_append_left _ hi)).trans (HGF.out.mono' (fun i hi => by
            rcases List.mem_cons.1 hi with e | hi
            · simp [e]
            rcases List.mem_cons.1 hi with e | hi
            · simp [e]
            · exact List.mem_append_right _ hi))).less (fun i hi => by
            rcases List.mem_append.1 hi with h1 | h1
            · exact .inl h1
            · exact .inr (by have := hoV i h1; omega))
        · have hy : y.1 = (m.rw n).ba + 1 + k := HR.out.s
          rw [List.map_append, HMP.out, dueK_yes (by rw [← hy]; exact HAB.out)]
          simp only [List.map_cons, List.map_nil, HX.out, ← hy, HR.out.b, hm1k]
          rfl
        · have hy : y.1 = (m.rw n).ba + 1 + k := HR.out.s
          rw [stK_yes (by rw [← hy]; exact HAB.out)]
          exact inferInstance
      · go_simp
        refine hK.out _ _ (DuS.step hS (below_alloc _ _)) (fun hS => ?_)
        clear hK K
        (try simp only [Act.put, List.setIfInBounds_toArray, List.set_cons_zero, List.set_cons_succ])
        refine wpAnyH_ready (rs := [0, 11]) (by kernel_rfl) (by simp) ?_
        refine AllReadyH.cons rfl (fun K hK => ?_) (AllReadyH.cons rfl (fun K hK => ?_) AllReadyH.nil)
        · go_simp
          refine hK.out _ _ hS (fun hS => ?_)
          clear hK K
          (try simp only [Act.put, List.setIfInBounds_toArray, List.set_cons_zero, List.set_cons_succ])
          refine wpAnyH_ready (rs := [11]) (by kernel_rfl) (by simp) ?_
          refine AllReadyH.cons rfl (fun K hK => ?_) AllReadyH.nil
          go_simp
          refine (data_s (hs := [⟨n, (m.rw n).cn, y.1, 0⟩]) _ m.n m.i _ _ inferInstance y.2.A y.2.c y.2.bs _ 1 ((HR.out.r.r.1.below blw).more (Blw.size inferInstance)) HYL.out (reads_hd1x _ _ _) (by simp)).mono ?_
          rintro e w2 ⟨p, rfl, hpx, hpp, hb2⟩
          haveI : Stp _ w2 := ⟨hb2⟩
          have HX := hide hpx
          have HPP := hide hpp
          refine hK.out _ _ (DuS.step hS hb2) (fun hS => ?_)
          clear hpx hpp hb2
          clear hK K
          (try simp only [Act.put, List.setIfInBounds_toArray, List.set_cons_zero, List.set_cons_succ])
          refine wpAnyH_ready (rs := [12]) (by kernel_rfl) (by simp) ?_
          refine AllReadyH.cons rfl (fun K hK => ?_) AllReadyH.nil
          go_simp
          refine hK.out _ _ (DuS.step hS (below_alloc _ _)) (fun hS => ?_)
          clear hK K
          (try simp only [Act.put, List.setIfInBounds_toArray, List.set_cons_zero, List.set_cons_succ])
          refine wpAnyH_ready (rs := [13]) (by kernel_rfl) (by simp) ?_
          refine AllReadyH.cons rfl (fun K hK => ?_) AllReadyH.nil
          have zw2 : w1.heap.size + 2 ≤ w2.heap.size := Nat.le_trans hzW (Blw.size (a := W) inferInstance)
          (refine step_append_x Tryz.okPm rfl (.tmp 24) (.tmp 36) rfl (w1.heap.size + 2) v ps.length (pms ps) 1 (pms [p]) ?_ ?_ ?_ ?_ ?_ ?_ ?_ ?_; go_must ((focus (first | rfl | (simp [Act.eval, Act.put]; done))); (focus (exact own_tc HPS.out.row)); (focus (refine ⟨_, _, by first | rfl | (simp [Act.eval, Act.put]; done), ?_⟩; exact reads_pm1x _ _ p)); (focus (exact pms_one _)); (focus (unfold maxLen; omega)); (focus omega); (focus (first | omega | (simp; done) | (simp; omega) | exact blw.size | exact BoxAt.lt (n := w.heap.size) inferInstance)); intro v7 w7 ho7 hg7 ha7; obtain ⟨A7, c7, rfl, _, _⟩ := own_slice ho7; haveI : StpB (w1.heap.size + 2) _ w7 := ⟨grown_belowT hg7 (Nat.le_trans hzW (Blw.size (a := W) inferInstance)) (fun q hq => (HPS.out.row.lt q hq).1)⟩; have O7 := hide (PmG.app (p := p) (HPS.out.step blw) ho7 hg7 ha7 (((HPP.out.re (D := ownL v) (fun i hi => .inr (.inl (Nat.lt_of_lt_of_le (HPS.out.row.lt i (mem_ownL.1 hi)).2 (Blw.size (a := W) inferInstance))))).lo (Nat.le_trans hzW (Blw.size (a := W) inferInstance))).tr (.bel blw))); have HG7 := hide (((Gr.of (C := ownL v) (blw (a := W))).trans (Gr.grown hg7 (fun k hk => mem_ownL.2 hk)))); have hS7 := hS.gr (C := ownL v) (Gr.grown hg7 (fun k hk => mem_ownL.2 hk)) (fun i hi => by have := (HPS.out.row.lt i (mem_ownL.1 hi)).1; omega); refine hK.out _ _ hS7 (fun hS => ?_); clear ho7 hg7 ha7 hS7))
          clear hK K
          (try simp only [Act.put, List.setIfInBounds_toArray, List.set_cons_zero, List.set_cons_succ])
          refine wpAnyH_ready (rs := [14]) (by kernel_rfl) (by simp) ?_
          refine AllReadyH.cons rfl (fun K hK => ?_) AllReadyH.nil
          go_simp
          refine hK.out _ _ (hS.gr (C := [w.heap.size + 1 + 1 + 1 + 1 + 1]) (Gr.set (m := w.heap.size + 1 + 1 + 1 + 1 + 1) _ _ _ (by simp)) (by intro i hi; simp at hi; omega)) (fun hS => ?_)
          clear hK K
          (try simp only [Act.put, List.setIfInBounds_toArray, List.set_cons_zero, List.set_cons_succ])
          refine wpAnyH_done (by kernel_rfl) ?_ _
          clear hS
          gi_wp2
          have hoV : ∀ i ∈ ownL v, w1.heap.size + 2 ≤ i := fun i hi => (HPS.out.row.lt i (mem_ownL.1 hi)).1
          have HGF := hide (((HG7.out.mono' (D := (w.heap.size + 1 + 1 + 1 + 1 + 1) :: rp n :: ownL v) (fun i hi => by simp [hi])).trans (Gr.set _ 0 (.slice A7 (ps.length + 1) c7) (by simp : w.heap.size + 1 + 1 + 1 + 1 + 1 ∈ (w.heap.size + 1 + 1 + 1 + 1 + 1) :: rp n :: ownL v))).trans (Gr.set _ 5 (.int .u64 now) (by simp : rp n ∈ (w.heap.size + 1 + 1 + 1 + 1 + 1) :: rp n :: ownL v)))
          have hnm : ∀ j, w1.heap.size ≤ j → j ≤ w1.heap.size + 1 → j ∉ (w.heap.size + 1 + 1 + 1 + 1 + 1) :: rp n :: ownL v := fun j j1 j2 hm => by
            rcases List.mem_cons.1 hm with e | hm
            · omega
            rcases List.mem_cons.1 hm with e | hm
            · omega
            · have := hoV j hm; omega
          refine ⟨HGF.out.blk _ (by omega) (hnm _ (by omega) (by omega)), HGF.out.blk _ (by omega) (hnm _ (by omega) (by omega)), ?_, ⟨rfl, Nat.le_trans hzW HGF.out.size⟩, ⟨.slice A7 (ps.length + 1) c7, ps ++ [p], inferInstance, O7.out.gr (C := [w.heap.size + 1 + 1 + 1 + 1 + 1, rp n]) ((Gr.set (m := w.heap.size + 1 + 1 + 1 + 1 + 1) _ 0 (.slice A7 (ps.length + 1) c7) (by simp)).trans (Gr.set (m := rp n) _ 5 (.int .u64 now) (by simp))) (by intro i hi; simp at hi; omega), ?_⟩, ?_⟩
          · exact ((HJ.out.g.mono' (D := [rp n, w.heap.size + 1 + 1 + 1 + 1 + 1, w1.heap.size + 1] ++ ownL v) (fun i hi => List.mem_append_left _ hi)).trans (HGF.out.mono' (fun i hi => by
              rcases List.mem_cons.1 hi with e | hi
              · simp [e]
              rcases List.mem_cons.1 hi with e | hi
              · simp [e]
              · exact List.mem_append_right _ hi))).less (fun i hi => by
              rcases List.mem_append.1 hi with h1 | h1
              · exact .inl h1
              · exact .inr (by have := hoV i h1; omega))
          · have hy : y.1 = (m.rw n).ba + 1 + k := HR.out.s
            rw [List.map_append, HMP.out, dueK_yes (by rw [← hy]; exact HAB.out)]
            simp only [List.map_cons, List.map_nil, HX.out, ← hy, HR.out.b, hm1k]
            rfl
          · have hy : y.1 = (m.rw n).ba + 1 + k := HR.out.s
            rw [stK_yes (by rw [← hy]; exact HAB.out)]
            exact inferInstance
        · go_simp
          refine (data_s (hs := [⟨n, (m.rw n).cn, y.1, 0⟩]) _ m.n m.i _ _ inferInstance y.2.A y.2.c y.2.bs _ 1 ((HR.out.r.r.1.below blw).more (Blw.size inferInstance)) HYL.out (reads_hd1x _ _ _) (by simp)).mono ?_
          rintro e w2 ⟨p, rfl, hpx, hpp, hb2⟩
          haveI : Stp _ w2 := ⟨hb2⟩
          have HX := hide hpx
          have HPP := hide hpp
          refine hK.out _ _ (DuS.step hS hb2) (fun hS => ?_)
          clear hpx hpp hb2
          clear hK K
          (try simp only [Act.put, List.setIfInBounds_toArray, List.set_cons_zero, List.set_cons_succ])
          refine wpAnyH_ready (rs := [0, 12]) (by kernel_rfl) (by simp) ?_
          refine AllReadyH.cons rfl (fun K hK => ?_) (AllReadyH.cons rfl (fun K hK => ?_) AllReadyH.nil)
          · go_simp
            refine hK.out _ _ hS (fun hS => ?_)
            clear hK K
            (try simp only [Act.put, List.setIfInBounds_toArray, List.set_cons_zero, List.set_cons_succ])
            refine wpAnyH_ready (rs := [12]) (by kernel_rfl) (by simp) ?_
            refine AllReadyH.cons rfl (fun K hK => ?_) AllReadyH.nil
            go_simp
            refine hK.out _ _ (DuS.step hS (below_alloc _ _)) (fun hS => ?_)
            clear hK K
            (try simp only [Act.put, List.setIfInBounds_toArray, List.set_cons_zero, List.set_cons_succ])
            refine wpAnyH_ready (rs := [13]) (by kernel_rfl) (by simp) ?_
            refine AllReadyH.cons rfl (fun K hK => ?_) AllReadyH.nil
            have zw2 : w1.heap.size + 2 ≤ w2.heap.size := Nat.le_trans hzW (Blw.size (a := W) inferInstance)
            (refine step_append_x Tryz.okPm rfl (.tmp 24) (.tmp 36) rfl (w1.heap.size + 2) v ps.length (pms ps) 1 (pms [p]) ?_ ?_ ?_ ?_ ?_ ?_ ?_ ?_; go_must ((focus (first | rfl | (simp [Act.eval, Act.put]; done))); (focus (exact own_tc HPS.out.row)); (focus (refine ⟨_, _, by first | rfl | (simp [Act.eval, Act.put]; done), ?_⟩; exact reads_pm1x _ _ p)); (focus (exact pms_one _)); (focus (unfold maxLen; omega)); (focus omega); (focus (first | omega | (simp; done) | (simp; omega) | exact blw.size | exact BoxAt.lt (n := w.heap.size) inferInstance)); intro v7 w7 ho7 hg7 ha7; obtain ⟨A7, c7, rfl, _, _⟩ := own_slice ho7; haveI : StpB (w1.heap.size + 2) _ w7 := ⟨grown_belowT hg7 (Nat.le_trans hzW (Blw.size (a := W) inferInstance)) (fun q hq => (HPS.out.row.lt q hq).1)⟩; have O7 := hide (PmG.app (p := p) (HPS.out.step blw) ho7 hg7 ha7 (((HPP.out.re (D := ownL v) (fun i hi => .inr (.inl (Nat.lt_of_lt_of_le (HPS.out.row.lt i (mem_ownL.1 hi)).2 (Blw.size (a := W) inferInstance))))).lo (Nat.le_trans hzW (Blw.size (a := W) inferInstance))).tr (.bel blw))); have HG7 := hide (((Gr.of (C := ownL v) (blw (a := W))).trans (Gr.grown hg7 (fun k hk => mem_ownL.2 hk)))); have hS7 := hS.gr (C := ownL v) (Gr.grown hg7 (fun k hk => mem_ownL.2 hk)) (fun i hi => by have := (HPS.out.row.lt i (mem_ownL.1 hi)).1; omega); refine hK.out _ _ hS7 (fun hS => ?_); clear ho7 hg7 ha7 hS7))
            clear hK K
            (try simp only [Act.put, List.setIfInBounds_toArray, List.set_cons_zero, List.set_cons_succ])
            refine wpAnyH_ready (rs := [14]) (by kernel_rfl) (by simp) ?_
            refine AllReadyH.cons rfl (fun K hK => ?_) AllReadyH.nil
            go_simp
            refine hK.out _ _ (hS.gr (C := [w.heap.size + 1 + 1 + 1 + 1 + 1]) (Gr.set (m := w.heap.size + 1 + 1 + 1 + 1 + 1) _ _ _ (by simp)) (by intro i hi; simp at hi; omega)) (fun hS => ?_)
            clear hK K
            (try simp only [Act.put, List.setIfInBounds_toArray, List.set_cons_zero, List.set_cons_succ])
            refine wpAnyH_done (by kernel_rfl) ?_ _
            clear hS
            gi_wp2
            have hoV : ∀ i ∈ ownL v, w1.heap.size + 2 ≤ i := fun i hi => (HPS.out.row.lt i (mem_ownL.1 hi)).1
            have HGF := hide (((HG7.out.mono' (D := (w.heap.size + 1 + 1 + 1 + 1 + 1) :: rp n :: ownL v) (fun i hi => by simp [hi])).trans (Gr.set _ 0 (.slice A7 (ps.length + 1) c7) (by simp : w.heap.size + 1 + 1 + 1 + 1 + 1 ∈ (w.heap.size + 1 + 1 + 1 + 1 + 1) :: rp n :: ownL v))).trans (Gr.set _ 5 (.int .u64 now) (by simp : rp n ∈ (w.heap.size + 1 + 1 + 1 + 1 + 1) :: rp n :: ownL v)))
            have hnm : ∀ j, w1.heap.size ≤ j → j ≤ w1.heap.size + 1 → j ∉ (w.heap.size + 1 + 1 + 1 + 1 + 1) :: rp n :: ownL v := fun j j1 j2 hm => by
              rcases List.mem_cons.1 hm with e | hm
              · omega
              rcases List.mem_cons.1 hm with e | hm
              · omega
              · have := hoV j hm; omega
            refine ⟨HGF.out.blk _ (by omega) (hnm _ (by omega) (by omega)), HGF.out.blk _ (by omega) (hnm _ (by omega) (by omega)), ?_, ⟨rfl, Nat.le_trans hzW HGF.out.size⟩, ⟨.slice A7 (ps.length + 1) c7, ps ++ [p], inferInstance, O7.out.gr (C := [w.heap.size + 1 + 1 + 1 + 1 + 1, rp n]) ((Gr.set (m := w.heap.size + 1 + 1 + 1 + 1 + 1) _ 0 (.slice A7 (ps.length + 1) c7) (by simp)).trans (Gr.set (m := rp n) _ 5 (.int .u64 now) (by simp))) (by intro i hi; simp at hi; omega), ?_⟩, ?_⟩
            · exact ((HJ.out.g.mono' (D := [rp n, w.heap.size + 1 + 1 + 1 + 1 + 1, w1.heap.size + 1] ++ ownL v) (fun i hi => List.mem_append_left _ hi)).trans (HGF.out.mono' (fun i hi => by
                rcases List.mem_cons.1 hi with e | hi
                · simp [e]
                rcases List.mem_cons.1 hi with e | hi
                · simp [e]
                · exact List.mem_append_right _ hi))).less (fun i hi => by
                rcases List.mem_append.1 hi with h1 | h1
                · exact .inl h1
                · exact .inr (by have := hoV i h1; omega))
            · have hy : y.1 = (m.rw n).ba + 1 + k := HR.out.s
              rw [List.map_append, HMP.out, dueK_yes (by rw [← hy]; exact HAB.out)]
              simp only [List.map_cons, List.map_nil, HX.out, ← hy, HR.out.b, hm1k]
              rfl
            · have hy : y.1 = (m.rw n).ba + 1 + k := HR.out.s
              rw [stK_yes (by rw [← hy]; exact HAB.out)]
              exact inferInstance
          · go_simp
            refine hK.out _ _ (DuS.step hS (below_alloc _ _)) (fun hS => ?_)
            clear hK K
            (try simp only [Act.put, List.setIfInBounds_toArray, List.set_cons_zero, List.set_cons_succ])
            refine wpAnyH_ready (rs := [0]) (by kernel_rfl) (by simp) ?_
            refine AllReadyH.cons rfl (fun K hK => ?_) AllReadyH.nil
            go_simp
            refine hK.out _ _ hS (fun hS => ?_)
            clear hK K
            (try simp only [Act.put, List.setIfInBounds_toArray, List.set_cons_zero, List.set_cons_succ])
            refine wpAnyH_ready (rs := [13]) (by kernel_rfl) (by simp) ?_
            refine AllReadyH.cons rfl (fun K hK => ?_) AllReadyH.nil
            have zw2 : w1.heap.size + 2 ≤ w2.heap.size := Nat.le_trans hzW (Blw.size (a := W) inferInstance)
            (refine step_append_x Tryz.okPm rfl (.tmp 24) (.tmp 36) rfl (w1.heap.size + 2) v ps.length (pms ps) 1 (pms [p]) ?_ ?_ ?_ ?_ ?_ ?_ ?_ ?_; go_must ((focus (first | rfl | (simp [Act.eval, Act.put]; done))); (focus (exact own_tc HPS.out.row)); (focus (refine ⟨_, _, by first | rfl | (simp [Act.eval, Act.put]; done), ?_⟩; exact reads_pm1x _ _ p)); (focus (exact pms_one _)); (focus (unfold maxLen; omega)); (focus omega); (focus (first | omega | (simp; done) | (simp; omega) | exact blw.size | exact BoxAt.lt (n := w.heap.size) inferInstance)); intro v7 w7 ho7 hg7 ha7; obtain ⟨A7, c7, rfl, _, _⟩ := own_slice ho7; haveI : StpB (w1.heap.size + 2) _ w7 := ⟨grown_belowT hg7 (Nat.le_trans hzW (Blw.size (a := W) inferInstance)) (fun q hq => (HPS.out.row.lt q hq).1)⟩; have O7 := hide (PmG.app (p := p) (HPS.out.step blw) ho7 hg7 ha7 (((HPP.out.re (D := ownL v) (fun i hi => .inr (.inl (Nat.lt_of_lt_of_le (HPS.out.row.lt i (mem_ownL.1 hi)).2 (Blw.size (a := W) inferInstance))))).lo (Nat.le_trans hzW (Blw.size (a := W) inferInstance))).tr (.bel blw))); have HG7 := hide (((Gr.of (C := ownL v) (blw (a := W))).trans (Gr.grown hg7 (fun k hk => mem_ownL.2 hk)))); have hS7 := hS.gr (C := ownL v) (Gr.grown hg7 (fun k hk => mem_ownL.2 hk)) (fun i hi => by have := (HPS.out.row.lt i (mem_ownL.1 hi)).1; omega); refine hK.out _ _ hS7 (fun hS => ?_); clear ho7 hg7 ha7 hS7))
            clear hK K
            (try simp only [Act.put, List.setIfInBounds_toArray, List.set_cons_zero, List.set_cons_succ])
            refine wpAnyH_ready (rs := [14]) (by kernel_rfl) (by simp) ?_
            refine AllReadyH.cons rfl (fun K hK => ?_) AllReadyH.nil
            go_simp
            refine hK.out _ _ (hS.gr (C := [w.heap.size + 1 + 1 + 1 + 1 + 1]) (Gr.set (m := w.heap.size + 1 + 1 + 1 + 1 + 1) _ _ _ (by simp)) (by intro i hi; simp at hi; omega)) (fun hS => ?_)
            clear hK K
            (try simp only [Act.put, List.setIfInBounds_toArray, List.set_cons_zero, List.set_cons_succ])
            refine wpAnyH_done (by kernel_rfl) ?_ _
            clear hS
            gi_wp2
            have hoV : ∀ i ∈ ownL v, w1.heap.size + 2 ≤ i := fun i hi => (HPS.out.row.lt i (mem_ownL.1 hi)).1
            have HGF := hide (((HG7.out.mono' (D := (w.heap.size + 1 + 1 + 1 + 1 + 1) :: rp n :: ownL v) (fun i hi => by simp [hi])).trans (Gr.set _ 0 (.slice A7 (ps.length + 1) c7) (by simp : w.heap.size + 1 + 1 + 1 + 1 + 1 ∈ (w.heap.size + 1 + 1 + 1 + 1 + 1) :: rp n :: ownL v))).trans (Gr.set _ 5 (.int .u64 now) (by simp : rp n ∈ (w.heap.size + 1 + 1 + 1 + 1 + 1) :: rp n :: ownL v)))
            have hnm : ∀ j, w1.heap.size ≤ j → j ≤ w1.heap.size + 1 → j ∉ (w.heap.size + 1 + 1 + 1 + 1 + 1) :: rp n :: ownL v := fun j j1 j2 hm => by
              rcases List.mem_cons.1 hm with e | hm
              · omega
              rcases List.mem_cons.1 hm with e | hm
              · omega
              · have := hoV j hm; omega
            refine ⟨HGF.out.blk _ (by omega) (hnm _ (by omega) (by omega)), HGF.out.blk _ (by omega) (hnm _ (by omega) (by omega)), ?_, ⟨rfl, Nat.le_trans hzW HGF.out.size⟩, ⟨.slice A7 (ps.length + 1) c7, ps ++ [p], inferInstance, O7.out.gr (C := [w.heap.size + 1 + 1 + 1 + 1 + 1, rp n]) ((Gr.set (m := w.heap.size + 1 + 1 + 1 + 1 + 1) _ 0 (.slice A7 (ps.length + 1) c7) (by simp)).trans (Gr.set (m := rp n) _ 5 (.int .u64 now) (by simp))) (by intro i hi; simp at hi; omega), ?_⟩, ?_⟩
            · exact ((HJ.out.g.mono' (D := [rp n, w.heap.size + 1 + 1 + 1 + 1 + 1, w1.heap.size + 1] ++ ownL v) (fun i hi => List.mem_append_left _ hi)).trans (HGF.out.mono' (fun i hi => by
                rcases List.mem_cons.1 hi with e | hi
                · simp [e]
                rcases List.mem_cons.1 hi with e | hi
                · simp [e]
                · exact List.mem_append_right _ hi))).less (fun i hi => by
                rcases List.mem_append.1 hi with h1 | h1
                · exact .inl h1
                · exact .inr (by have := hoV i h1; omega))
            · have hy : y.1 = (m.rw n).ba + 1 + k := HR.out.s
              rw [List.map_append, HMP.out, dueK_yes (by rw [← hy]; exact HAB.out)]
              simp only [List.map_cons, List.map_nil, HX.out, ← hy, HR.out.b, hm1k]
              rfl
            · have hy : y.1 = (m.rw n).ba + 1 + k := HR.out.s
              rw [stK_yes (by rw [← hy]; exact HAB.out)]
              exact inferInstance
    · have d1 : decide (above < y.1) = false := decide_eq_false hab
      have HAB := hide hab
      have HJ := hide hJ
      have HR := hide hR
      clear hab hJ hR hps hmp
      gi_wp2
      refine ⟨rfl, rfl, HJ.out.g, HJ.out.z, ?_, ?_⟩
      · obtain ⟨v, ps, h1, h2, h3⟩ := HJ.out.p
        exact ⟨v, ps, h1, h2, by rw [h3, dueK_no (by rw [← HR.out.s]; exact Int.not_lt.2 HAB.out)]⟩
      · rw [stK_no (by rw [← HR.out.s]; exact Int.not_lt.2 HAB.out)]; exact HJ.out.r
  case done =>
    intro W hJ hD
    obtain ⟨v, ps, hv, hps, hmp⟩ := hJ.p
    haveI := hv
    have HJ := hide hJ
    have HP := hide hps
    have HM := hide hmp
    clear hJ hps hmp
    gi_wp2
    refine ⟨by simp, .inl ⟨_, _, rfl, run_takeDeferred hD, ?_⟩⟩
    refine ⟨_, results_tmp rfl _ _ _, ?_⟩
    have hgd := Gr.put w1.heap.size W (.deferred none)
    have HGR : Hid (Gr [rp n] w (W.putObj w1.heap.size (.deferred none))) := hide ((((Gr.of (C := [rp n, w.heap.size + 1 + 1 + 1 + 1 + 1, w1.heap.size + 1, w1.heap.size]) blw).trans (HJ.out.g.mono' (fun i hi => by simp at hi ⊢; omega))).trans (hgd.mono' (by simp))).less (fun i hi => by simp at hi ⊢; omega))
    refine ⟨v, ps, rfl, (HP.out.gr hgd (by intro i hi; simp at hi; omega)).lo (by omega), ?_, ?_, ?_⟩
    · rw [HM.out, HLD.out]; rfl
    · exact ⟨⟨hok.bl, hok.b0, hok.bm, hok.bb, stK_b hok now0 now1 _ _, stK_t hok now0 now1 _ _⟩, A, c, ds, ⟨by
        rw [hgd.blk _ HJ.out.r.lt (by simp; omega), HJ.out.r.eq, HLD.out]
        rfl⟩, (hds.re (D := rgB w.heap.size (W.putObj w1.heap.size (.deferred none)) ++ E) (fun i hi => by
        rcases List.mem_append.1 hi with h1 | h1
        · exact .inr (mem_rgB.1 h1).1
        · exact .inl h1)).tr (.of (HGR.out.mono' (fun i hi => by rw [List.mem_singleton] at hi; subst hi; exact List.mem_append_right _ (h.CE _ hrC)))), hmap, hcl⟩
    · exact HGR.out
end
end Go.Proofs.YtniogmefbjfoaaaGreat

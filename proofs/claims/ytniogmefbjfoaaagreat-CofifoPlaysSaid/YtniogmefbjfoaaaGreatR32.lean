/-
  Layer 16, the document's: Send: what holds while it runs.
-/
import Derived.Test.YtniogmefbjfoaaaGreatR29
namespace Go.Proofs.YtniogmefbjfoaaaGreat
set_option linter.unusedSimpArgs false
set_option linter.unusedVariables false
set_option linter.unusedSectionVars false
open Go.RowKit Go.Maps

/-- a row is written, and blocks that anybody writes -/
theorem RfM.setT {X W : World} {E E' : List Nat} {x b c k : Nat} {m m' : En} (h : RfM X E x b c m) (hk : k < 11) (t : Tr E E' X W) (ho : ∀ o u, o < k * 9 ∨ k * 9 + 9 ≤ o → X.cell? ⟨b, o, none⟩ = some u → W.cell? ⟨b, o, none⟩ = some u) (hf : FrzAt W b) (hbE : b ∈ E') (hl : ∀ i ∈ E', i < W.heap.size) (hn : m'.n = m.n) (hi : m'.i = m.i) (hr : RfR W E' b k (m'.rwR k) (m'.cmR k)) (hoth : ∀ k', k' < 11 → k' ≠ k → m'.rwR k' = m.rwR k' ∧ m'.cmR k' = m.cmR k') (hc : ∀ k c, m'.cm k = some c → 1 ≤ c.i) : RfM W E' x b c m' := by
  refine ⟨by rw [hn]; exact h.n1, by rw [hn, hi]; exact (t.box h.bx h.xE).1, (t.box h.bx h.xE).2, hbE, hf, hl, fun k' hk' => ?_, hc⟩
  by_cases e : k' = k
  · subst e; exact hr
  · obtain ⟨e1, e2⟩ := hoth k' hk' e
    rw [e1, e2]
    exact (h.ro k' hk').keep t (fun j u hj hu => ho _ u (by
      rcases Nat.lt_or_gt_of_ne e with h1 | h1
      · left
        have : k' * 9 + 9 ≤ k * 9 := by omega
        omega
      · right; omega) hu)
theorem gr_fin16 {w X Y : World} {C D : List Nat} (g : Gr C w X) (h : Gr D X Y) (hD : ∀ i ∈ D, i ∈ C ∨ w.heap.size ≤ i) : Gr C w Y :=
  ((g.mono' (D := C ++ D) (fun i hi => List.mem_append_left _ hi)).trans (h.mono' (fun i hi => List.mem_append_right _ hi))).less (fun i hi => by
    rcases List.mem_append.1 hi with h1 | h1
    · exact .inl h1
    · exact hD i h1)
/-- while Send goes through the nodes -/
structure SnQ (w : World) (E : List Nat) (x b c : Nat) (b8 b12 : Nat) (s : Snd) (hv fv : Value) (W : World) : Prop where
  e : RfM W (ownL hv ++ (ownL fv ++ (b8 :: b12 :: E))) x b c s.m
  h : W.ownsRow (b12 + 1) 93 4 hv s.hs.length (hcs s.hs)
  f : W.ownsRow (b12 + 1) 3 1 fv s.fl.length (ics s.fl)
  d : ∀ i ∈ ownL hv, i ∉ ownL fv
  g : Gr [b] w W
  z : w.heap.size ≤ b8 ∧ b8 < b12 ∧ b12 < W.heap.size
  bw : b < w.heap.size ∧ b ∈ E
section
variable {w : World} {E : List Nat} {x b c : Nat} {b8 b12 : Nat} {s : Snd} {hv fv : Value} {X W : World}
theorem SnQ.hlt (h : SnQ w E x b c b8 b12 s hv fv X) : ∀ i ∈ ownL hv, b12 + 1 ≤ i ∧ i < X.heap.size := fun i hi => h.h.lt i (mem_ownL.1 hi)
theorem SnQ.flt (h : SnQ w E x b c b8 b12 s hv fv X) : ∀ i ∈ ownL fv, b12 + 1 ≤ i ∧ i < X.heap.size := fun i hi => h.f.lt i (mem_ownL.1 hi)
theorem SnQ.below (h : SnQ w E x b c b8 b12 s hv fv X) (hb : Below X.heap.size X W) : SnQ w E x b c b8 b12 s hv fv W :=
  ⟨h.e.below hb, own_below h.h hb (Nat.le_refl _), own_below h.f hb (Nat.le_refl _), h.d, h.g.trans (.of hb), ⟨h.z.1, h.z.2.1, Nat.lt_of_lt_of_le h.z.2.2 hb.size⟩, h.bw⟩
/-- a node whose row is full is told -/
theorem SnQ.full (h : SnQ w E x b c b8 b12 s hv fv X) {X6 w7 : World} (hb : Below X.heap.size X X6) {fv' : Value} (n : Int) (h7o : w7.ownsRow (b12 + 1) 3 1 fv' (s.fl.length + 1) (ics s.fl ++ ics [n])) (h7 : X6.grownBy w7 fv.ownBlock) (h7a : fv'.ownBlock = fv.ownBlock ∨ fv'.ownBlock = some X6.heap.size) (hW : Gr [b12] w7 W) :
    SnQ w E x b c b8 b12 { s with fl := s.fl ++ [n] } hv fv' W := by
  have hz := hb.size
  have h7z := h7.size
  have hzz := h.z
  have hbw := h.bw
  have g : Gr (b12 :: ownL fv) X W := ((Gr.of hb).trans (Gr.grown h7 (fun k hk => List.mem_cons_of_mem _ (mem_ownL.2 hk)))).trans (hW.mono' (by simp))
  have hnew : ∀ i ∈ ownL fv', i ∈ ownL fv ∨ X.heap.size ≤ i := fun i hi => by
    rw [mem_ownL] at hi ⊢
    rcases h7a with h1 | h1
    · rw [h1] at hi; exact .inl hi
    · rw [h1] at hi; injection hi with hi; exact .inr (by omega)
  have hbs : b ∉ b12 :: ownL fv := fun hm => by
    rcases List.mem_cons.1 hm with e | hm
    · omega
    · have := h.flt b hm; omega
  have hfo : W.ownsRow (b12 + 1) 3 1 fv' (s.fl.length + 1) (ics s.fl ++ ics [n]) := own_same h7o (fun i hi => hW.blk i (h7o.lt i hi).2 (fun hm => by rw [List.mem_singleton] at hm; have := (h7o.lt i hi).1; omega))
  refine ⟨h.e.keep ⟨g.mono' (fun i hi => ?_), fun i hi => ?_⟩ (g.blk b h.e.fz.lt hbs) ?_ (fun i hi => ?_), ?_, ?_, fun i hi hm => ?_, ?_, ⟨h.z.1, h.z.2.1, Nat.lt_of_lt_of_le h.z.2.2 g.size⟩, h.bw⟩
  · rcases List.mem_cons.1 hi with rfl | hi
    · simp
    · simp [hi]
  · rcases List.mem_append.1 hi with hi | hi
    · simp [hi]
    rcases List.mem_append.1 hi with hi | hi
    · rcases hnew i hi with h1 | h1
      · simp [h1]
      · exact .inr h1
    · exact .inl (List.mem_append_right _ (List.mem_append_right _ hi))
  · simp [h.bw.2]
  · rcases List.mem_append.1 hi with hi | hi
    · exact Nat.lt_of_lt_of_le (h.hlt i hi).2 g.size
    rcases List.mem_append.1 hi with hi | hi
    · exact (hfo.lt i (mem_ownL.1 hi)).2
    · exact Nat.lt_of_lt_of_le (h.e.ltE i (List.mem_append_right _ (List.mem_append_right _ hi))) g.size
  · exact own_same h.h (fun i hi => g.blk i (h.h.lt i hi).2 (fun hm => by
      rcases List.mem_cons.1 hm with rfl | hm
      · have := (h.h.lt _ hi).1; omega
      · exact h.d i (mem_ownL.2 hi) hm))
  · rw [List.length_append, ics_app]
    exact hfo
  · rcases hnew i hm with h1 | h1
    · exact h.d i hi h1
    · have := (h.hlt i hi).2; omega
  · exact gr_fin16 h.g g (fun i hi => by
      right
      rcases List.mem_cons.1 hi with rfl | hi
      · omega
      · have := h.flt i hi; omega)
/-- a row is pushed to -/
theorem SnQ.push (h : SnQ w E x b c b8 b12 s hv fv X) {k : Nat} (hn : s.m.oth k) {W3 : World} (hb : Below X.heap.size X W3) {B : Nat} (hB : X.heap.size ≤ B) {A : Option Addr} {cc : Nat} {ds : List Bd} (hN : BdsN W3 B A ds) {hv' : Value} {hs' : List Hd} (hnew : ∀ i ∈ ownL hv', i ∈ ownL hv ∨ W3.heap.size ≤ i) (g3 : Gr (b :: ownL hv) W3 W)
    (ho : ∀ o u, o < k * 9 ∨ k * 9 + 9 ≤ o → X.cell? ⟨b, o, none⟩ = some u → W.cell? ⟨b, o, none⟩ = some u) (hf : FrzAt W b)
    (hrow : W.ownsRow (b12 + 1) 93 4 hv' hs'.length (hcs hs')) {r' : Rw} (hok : RwOk r') (h9 : Rr9 W b k r' A cc (s.m.cmR k)) (hm : ds.map Bd.bs = r'.bx) (hc : r'.bx.length ≤ cc) :
    SnQ w E x b c b8 b12 ⟨s.m.put k r', s.fl, hs'⟩ hv' fv W := by
  have hz := hb.size
  have h3z := g3.size
  have hzz := h.z
  have hbw := h.bw
  have hkk := oth_lt hn
  have g : Gr (b :: ownL hv) X W := (Gr.of hb).trans g3
  have t3 : Tr (ownL hv ++ (ownL fv ++ (b8 :: b12 :: E))) (ownL hv' ++ (ownL fv ++ (b8 :: b12 :: E))) W3 W := ⟨g3.mono' (fun i hi => by
    rcases List.mem_cons.1 hi with rfl | hi
    · simp [hbw.2]
    · exact List.mem_append_left _ hi), fun i hi => by
    rcases List.mem_append.1 hi with hi | hi
    · rcases hnew i hi with h1 | h1
      · exact .inl (List.mem_append_left _ h1)
      · exact .inr h1
    · exact .inl (List.mem_append_right _ hi)⟩
  have t : Tr (ownL hv ++ (ownL fv ++ (b8 :: b12 :: E))) (ownL hv' ++ (ownL fv ++ (b8 :: b12 :: E))) X W := (Tr.bel hb).trans t3
  refine ⟨h.e.setT (k := k) (by omega) t ho hf (by simp [hbw.2]) (fun i hi => ?_) rfl rfl ?_ (fun k' _ e => put_other e) h.e.cm, hrow, ?_, fun i hi hm => ?_, ?_, ⟨h.z.1, h.z.2.1, Nat.lt_of_lt_of_le h.z.2.2 g.size⟩, h.bw⟩
  · rcases List.mem_append.1 hi with hi | hi
    · exact (hrow.lt i (mem_ownL.1 hi)).2
    · exact Nat.lt_of_lt_of_le (h.e.ltE i (List.mem_append_right _ hi)) g.size
  · rw [put_same hn]
    exact ⟨hok, A, cc, ds, h9, Bds.tr (hN.ro (fun i hi => Nat.lt_of_lt_of_le (h.e.ltE i hi) hB)) t3, hm, hc⟩
  · exact own_same h.f (fun i hi => g.blk i (h.f.lt i hi).2 (fun hm => by
      rcases List.mem_cons.1 hm with rfl | hm
      · have := (h.f.lt _ hi).1; omega
      · exact h.d i hm (mem_ownL.2 hi)))
  · rcases hnew i hi with h1 | h1
    · exact h.d i h1 hm
    · have := (h.flt i hm).2; omega
  · exact gr_fin16 h.g g (fun i hi => by
      rcases List.mem_cons.1 hi with rfl | hi
      · exact .inl (by simp)
      · right
        have := h.hlt i hi; omega)
end
end Go.Proofs.YtniogmefbjfoaaaGreat

namespace Go.Proofs.YtniogmefbjfoaaaGreat
set_option linter.unusedSimpArgs false
set_option linter.unusedVariables false
set_option linter.unusedSectionVars false
open Go.RowKit Go.Maps

theorem Reads.stp16 {X W : World} {k n : Nat} {A : Option Addr} {xs : List Value} (h : Reads X X.heap.size k A n xs) (hb : Below X.heap.size X W) : Reads W W.heap.size k A n xs := (h.below hb).more hb.size
theorem BdsN.gr16 {X W : World} {B : Nat} {A : Option Addr} {ds : List Bd} {C : List Nat} (h : BdsN X B A ds) (hg : Gr C X W) (hC : ∀ i ∈ C, i < B) : BdsN W B A ds := h.gr hg hC
theorem tens_mem16 {n : Int} : n ∈ tens ↔ 1 ≤ n ∧ n ≤ 10 := by
  unfold tens
  rw [List.mem_map]
  constructor
  · rintro ⟨k, hk, rfl⟩
    rw [List.mem_range] at hk
    omega
  · rintro ⟨h1, h2⟩
    exact ⟨(n - 1).toNat, List.mem_range.2 (by omega), by omega⟩
theorem mem_nodes16 {m : En} {n : Int} : n ∈ m.nodes ↔ m.isR n = true := by
  unfold En.nodes
  rw [List.mem_filter]
  refine ⟨fun h => h.2, fun h => ⟨?_, h⟩⟩
  have := (isR_iff.1 h).1
  unfold En.oth at this
  exact tens_mem16.2 ⟨this.1, this.2.1⟩
theorem snd_app2 {b : Nat} {w6 X w7 : World} {v v' : Value} [t : Trc [b] w6 X] (h7 : X.grownBy w7 v.ownBlock) (h7a : v'.ownBlock = v.ownBlock ∨ v'.ownBlock = some X.heap.size) : Gr (b :: ownL v) w6 w7 ∧ ∀ i ∈ ownL v', i ∈ ownL v ∨ w6.heap.size ≤ i := by
  have g := t.h.g
  refine ⟨(g.mono' (fun i hi => by rw [List.mem_singleton] at hi; subst hi; exact List.mem_cons_self ..)).trans (Gr.grown h7 (fun k hk => List.mem_cons_of_mem _ (mem_ownL.2 hk))), fun i hi => ?_⟩
  rw [mem_ownL] at hi ⊢
  rcases h7a with h1 | h1
  · rw [h1] at hi; exact .inl hi
  · rw [h1] at hi; injection hi with hi; exact .inr (by rw [← hi]; exact g.size)
theorem o9_app {b k : Nat} {wr X w7 : World} {v : Value} (W9 : W9 b k wr X) (h7 : X.grownBy w7 v.ownBlock) (hn : b ∉ ownL v) (hb : b < wr.heap.size) : ∀ o u, o < k * 9 ∨ k * 9 + 9 ≤ o → wr.cell? ⟨b, o, none⟩ = some u → w7.cell? ⟨b, o, none⟩ = some u := fun o u ho hu => by
  rw [World.cell?_of_block (w := X) (h7.block b (Nat.lt_of_lt_of_le hb W9.gr.size) (fun e => hn (mem_ownL.2 e.symm)))]
  exact W9.o o u ho hu
theorem rr9_mk {W : World} {b k : Nat} {cn ba ak st : Int} {rl : Bool} {bx : List (List Int)} {A : Option Addr} {c : Nat} {cm : Cm} (c0 : CellAt W b (k * 9) (.int .u64 cn)) (c1 : CellAt W b (k * 9 + 1) (.bool rl)) (c2 : CellAt W b (k * 9 + 2) (.int .u64 ba)) (c3 : CellAt W b (k * 9 + 3) (.slice A bx.length c)) (c4 : CellAt W b (k * 9 + 4) (.int .u64 ak)) (c5 : CellAt W b (k * 9 + 5) (.int .u64 st)) (c6 : CellAt W b (k * 9 + 6) (.int .u64 cm.i)) (c7 : CellAt W b (k * 9 + 7) (.int .u64 cm.c)) (c8 : CellAt W b (k * 9 + 8) (.int .u64 cm.g)) : Rr9 W b k ⟨cn, rl, ba, bx, ak, st⟩ A c cm := ⟨c0, c1, c2, c3, c4, c5, c6, c7, c8⟩
theorem sends_at {m : En} {now : Int} {body dsts : List Int} {kk : Nat} (h1 : 1 ≤ kk) (h2 : kk ≤ 10) : m.sends now body dsts kk = send1 now body dsts (m.sends now body dsts (kk - 1)) (kk : Int) := by
  have := sends_succ m now body dsts (k := kk - 1) (by omega)
  rw [show kk - 1 + 1 = kk by omega, show (((kk - 1 : Nat) : Int) + 1) = (kk : Int) by omega] at this
  exact this
def RetSr (w : World) (E : List Nat) (x b c : Nat) (r : En × An × Int) (e : Ending) (W : World) : Prop := ∃ v, e = .returned (.tuple #[v, .int .i64 r.2.2]) ∧ AnsM w.heap.size W v r.2.1 ∧ RfM W E x b c r.1 ∧ Gr [b] w W
theorem ro_ne {W : World} {base k n c : Nat} {e : TypeId} {A : Option Addr} {xs : List Value} {C : List Nat} (h : W.ownsRow base e k (.slice A n c) n xs) (hC : ∀ i ∈ C, ∀ a, A = some a → a.block ≠ i) : RO W C k A n xs := ⟨Reads.of_own h, fun _ a ha hm => hC _ hm a ha rfl⟩
theorem send_pm {wr w8 Wf : World} {lo b12 B8 hc c8 : Nat} {HA A8 : Option Addr} {hs : List Hd} {body : List Int} {C : List Nat} {n i : Int} (hh : wr.ownsRow (b12 + 1) 93 4 (.slice HA hs.length hc) hs.length (hcs hs)) (h8 : OwnB w8 B8 (.slice A8 body.length c8) body) (hlo : lo ≤ b12 + 1) (hlo8 : b12 + 1 ≤ B8) (hz : wr.heap.size ≤ w8.heap.size) (g : Gr C wr Wf) (g8 : Gr C w8 Wf) (hC : ∀ i ∈ C, i < b12 + 1) :
    PmP lo Wf (ownL (.slice (some ⟨w8.heap.size, 0, none⟩) 1 1)) ⟨⟨2, n, i, 8, hs, body, 0, 0, 0, []⟩, HA, hc, A8, c8⟩ := by
  have k1 := own_same hh (fun i hi => g.blk i (hh.lt i hi).2 (fun hm => by have := hC i hm; have := (hh.lt i hi).1; omega))
  have k2 := own_same h8 (fun i hi => g8.blk i (h8.lt i hi).2 (fun hm => by have := hC i hm; have := (h8.lt i hi).1; omega))
  refine ⟨ro_ne k1 (fun j hj a ha => ?_), ro_ne k2 (fun j hj a ha => ?_), fun a ha => ?_, fun a ha => ?_, rfl, NF.own k1, NF.own k2⟩
  · have h1 := mem_ownL.1 hj
    injection h1 with h1
    subst ha
    have := (hh.lt _ rfl).2
    simp only at h1
    omega
  · have h1 := mem_ownL.1 hj
    injection h1 with h1
    subst ha
    have := (h8.lt _ rfl).2
    simp only at h1
    omega
  · simp only at ha
    subst ha
    have := (hh.lt _ rfl).1
    omega
  · simp only at ha
    subst ha
    have := (h8.lt _ rfl).1
    omega
section
variable {E : List Nat} {x b c : Nat} {m : En}
def SnRq (w : World) (E : List Nat) (x b c : Nat) (m : En) (now : Int) (body dsts : List Int) (b8 b12 : Nat) (j hv : Value) (W : World) : Prop := ∃ (kk : Nat) (fv : Value), 1 ≤ kk ∧ kk ≤ 11 ∧ j = .int .i64 kk ∧ SnQ w E x b c b8 b12 (m.sends now body dsts (kk - 1)) hv fv W ∧ BoxAt W b12 #[.slice none 0 0, .slice none 0 0, fv] 52 ∧ BoxAt W b8 #[.slice none 0 0, .slice none 0 0, .slice none 0 0] 52
set_option maxRecDepth 100000 in
set_option maxHeartbeats 16000000 in
theorem send16r_y (w : World) (h : RfM w E x b c m) (now : Int) (now0 : 0 ≤ now) (now1 : now ≤ 18446744073709551615) (BA : Option Addr) (bc : Nat) (body : List Int) (hB : RO w E 1 BA body.length (bcs body)) (hb0 : 1 ≤ body.length) (hb1 : body.length ≤ 320)
    (DA : Option Addr) (dc : Nat) (dsts : List Int) (hD : RO w E 1 DA dsts.length (ics dsts)) (hdl : dsts.length ≤ 1000000) (hne : 1 ≤ dsts.length) (hR : ∀ n ∈ dsts, m.isR n = true) :
    Calls Tryz.prog 23 #[.pointer (some ⟨x, 0, none⟩), .int .u64 now, .slice BA body.length bc, .slice DA dsts.length dc] w (RetSr w E x b c ((m.sends now body dsts 10).m, m.sendA body (m.sends now body dsts 10), 0)) := by
  have HE := hide h
  have HbE := hide h.bE
  have HBW := hide h.fz.lt
  have hbl := h.fz.lt
  haveI := h.bx
  haveI := h.fz
  haveI : LtN x w.heap.size := ⟨h.bx.lt⟩
  haveI : LtN b w.heap.size := ⟨h.fz.lt⟩
  haveI : NeN x b := ⟨fun e => h.xE (by rw [e]; exact h.bE)⟩
  have HB := hide hB
  have HD := hide hD
  have HR := hide hR
  have TN : Hid (∀ W, Below w.heap.size w W → Calls Tryz.prog 20 #[.pointer (some ⟨x, 0, none⟩)] W fun e w' => ∃ v, e = .returned v ∧ w'.ownsRow W.heap.size 3 1 v m.nodes.length (ics m.nodes) ∧ Below W.heap.size W w') := hide (fun W hW => nodes16r_s W (h.below hW))
  have hnl := nodes_len m
  have d1 : decide ((body.length : Int) < 1) = false := decide_eq_false (by omega)
  have d2 : decide ((320 : Int) < (body.length : Int)) = false := decide_eq_false (by omega)
  have d3 : ((dsts.length : Int) == 0) = false := beq_eq_false_iff_ne.2 (by omega)
  clear h hB hD hR
  go_enter Tryz.func23, Tryz.ntmps23
  go_wp2_with fail
  go_loopw [10] (fun j wr => ∃ k : Nat, k ≤ dsts.length ∧ j = .int .i64 k ∧ Below w.heap.size w wr ∧ BoxAt wr w.heap.size #[.slice none 0 0, .slice none 0 0, .slice none 0 0] 52) (fun j _ => dsts.length - (intOf j).toNat)
  case atStart => exact ⟨0, Nat.zero_le _, rfl, blw, inferInstance⟩
  case round =>
    obtain ⟨k, hk, rfl, hBw, hb8⟩ := hrel
    haveI : Blw w wr := ⟨hBw⟩
    haveI := hb8
    have hsz := hBw.size
    have hsz1 := hb8.lt
    have HBW2 := hide hBw
    clear hBw
    by_cases hlt : k < dsts.length
    · have hRd := (HD.out.1.below HBW2.out)
      obtain ⟨q, off, n, rfl, hq, hn, g1⟩ := Reads.atI hRd hlt
      haveI : CellAt wr q (off + k) (.int .i64 n) := ⟨Nat.lt_of_lt_of_le hq (by omega), g1⟩
      have hnn : n ∈ m.nodes := mem_nodes16.2 (HR.out n (List.mem_of_getElem? hn))
      have e9 : decide (n ∈ m.nodes) = true := decide_eq_true hnn
      have TH : Hid (∀ W A cc, Reads W W.heap.size 1 A m.nodes.length (ics m.nodes) → Calls Tryz.prog 43 #[.slice A m.nodes.length cc, .int .i64 n] W (RetB W true)) := hide (fun W A cc hW => by have := has16_b A cc m.nodes n W hW (by omega); rw [e9] at this; exact this)
      have i0 : (0 : Int) ≤ (k : Int) := by omega
      have i1 : (k : Int) < (dsts.length : Int) := by omega
      clear hRd hq hn g1 hnn e9
      go_upto_region 6 with fail
      go_region_held3 (fun w' => w'.cell? ⟨q, off + k, none⟩ = some (.int .i64 n)) ((exact CellAt.h)) (first
        | (go_at_call 20; (with_reducible refine (TN.out _ (by exact blw)).mono ?_); rintro e w1 ⟨v1, rfl, ho1, hb1⟩; obtain ⟨A1, cc1, rfl, _, _⟩ := own_slice ho1; haveI : Stp _ w1 := ⟨hb1⟩; have O1 := hide (Reads.of_own ho1); clear ho1 hb1)
        | (go_at_call 43; (with_reducible refine (TH.out _ _ _ (O1.out.stp16 (by exact blw))).mono ?_); rintro e w2 ⟨rfl, hb2⟩; haveI : Stp _ w2 := ⟨hb2⟩; clear hb2)
        | fail)
      all_goals
        go_wp2_with fail
        go_roundw
        case rel => exact ⟨k + 1, by omega, by go_num, blw, inferInstance⟩
        case measure => simp [intOf]; omega
    · have hke : k = dsts.length := by omega
      subst hke
      clear TN
      go_wp2_with fail
      obtain ⟨wd, rfl⟩ : ∃ wd, wd = wr := ⟨wr, rfl⟩
      haveI : LtN w.heap.size (wd.heap.size + 1) := ⟨by omega⟩
      haveI : LtN wd.heap.size (wd.heap.size + 1) := ⟨by omega⟩
      haveI : LtN w.heap.size wd.heap.size := ⟨hsz1⟩
      haveI : LtN x (wd.heap.size + 1) := ⟨by have := (inferInstance : LtN x w.heap.size).h; omega⟩
      haveI : LtN b (wd.heap.size + 1) := ⟨by omega⟩
      haveI : LtN b wd.heap.size := ⟨by omega⟩
      go_loopw [13, 12] (fun j hv wr2 => SnRq w E x b c m now body dsts w.heap.size wd.heap.size j hv wr2) (fun j _ _ => 11 - (intOf j).toNat)
      case atStart =>
        refine ⟨1, .slice none 0 0, by omega, by omega, rfl, ⟨?_, World.ownsRow_nil _ _ _ _, World.ownsRow_nil _ _ _ _, fun i hi => by (have := mem_ownL.1 hi; cases this), .of blw, ⟨Nat.le_refl _, hsz1, by simp⟩, ⟨HBW.out, HbE.out⟩⟩, inferInstance, inferInstance⟩
        have hbB : Below w.heap.size w (wd.alloc (.cells #[.slice none 0 0, .slice none 0 0, .slice none 0 0] 52)) := blw
        refine HE.out.keep ⟨.of hbB, fun j hj => ?_⟩ (hbB.block b HBW.out) (by simp [HbE.out]) (fun j hj => ?_)
        · rcases List.mem_append.1 hj with hj | hj
          · cases mem_ownL.1 hj
          rcases List.mem_append.1 hj with hj | hj
          · cases mem_ownL.1 hj
          rcases List.mem_cons.1 hj with rfl | hj
          · exact .inr (Nat.le_refl _)
          rcases List.mem_cons.1 hj with rfl | hj
          · exact .inr hsz
          · exact .inl hj
        · simp only [World.size_alloc]
          rcases List.mem_append.1 hj with hj | hj
          · cases mem_ownL.1 hj
          rcases List.mem_append.1 hj with hj | hj
          · cases mem_ownL.1 hj
          rcases List.mem_cons.1 hj with rfl | hj
          · omega
          rcases List.mem_cons.1 hj with rfl | hj
          · omega
          · have := HE.out.ltE j hj; omega
      case round =>
        obtain ⟨kk, fv, hk1, hk11, rfl, hL, hb12, hb8'⟩ := hrel
        obtain ⟨HA, hc, rfl, _, _⟩ := own_slice hL.h
        obtain ⟨FA, fc, rfl, _, _⟩ := own_slice hL.f
        have hsn := sends_n m now body dsts (kk - 1) (by omega)
        have HSI : Hid ((m.sends now body dsts (kk - 1)).m.n = m.n ∧ (m.sends now body dsts (kk - 1)).m.i = m.i) := hide ⟨hsn.1, hsn.2.1⟩
        have hfl := hsn.2.2.1
        have hhl := hsn.2.2.2
        have HSA0 : Hid (kk ≤ 10 → m.sends now body dsts kk = send1 now body dsts (m.sends now body dsts (kk - 1)) (kk : Int)) := hide (fun h => sends_at hk1 h)
        obtain ⟨s, hs⟩ : ∃ s, s = m.sends now body dsts (kk - 1) := ⟨_, rfl⟩
        rw [← hs] at hL HSI hfl hhl hb12 HSA0
        try rw [← hs]
        have HST := hide hs
        haveI := hb12
        haveI := hb8'
        haveI bxr := hL.e.bx
        haveI := hL.e.fz
        have zl := hL.z
        have zw : w.heap.size ≤ wr.heap.size := hL.g.size
        have hblr : b < wr.heap.size := by omega
        haveI : LtN b wr.heap.size := ⟨hblr⟩
        have HL := hide hL
        have HDR := hide (HD.out.tr (.of (hL.g.mono' (D := E) (fun i hi => by rw [List.mem_singleton] at hi; subst hi; exact HbE.out)))).1
        have HBR := hide (HB.out.tr (.of (hL.g.mono' (D := E) (fun i hi => by rw [List.mem_singleton] at hi; subst hi; exact HbE.out)))).1
        clear hL hs hsn
        by_cases hlt : kk ≤ 10
        · have d0 : decide ((kk : Int) ≤ 10) = true := decide_eq_true (by omega)
          by_cases hd : (kk : Int) ∈ dsts
          · have HDM := hide hd
            have TH : Hid (∀ W, Reads W W.heap.size 1 DA dsts.length (ics dsts) → Calls Tryz.prog 43 #[.slice DA dsts.length dc, .int .i64 kk] W (RetB W true)) := hide (fun W hW => by have := has16_b DA dc dsts kk W hW hdl; rw [decide_eq_true hd] at this; exact this)
            have hos : s.m.oth kk := by
              have h1 := (isR_iff.1 (HR.out _ hd)).1
              unfold En.oth at h1 ⊢
              rw [HSI.out.1]
              exact h1
            obtain ⟨hok, A, c', ds, h9, hds, hmap, hcl⟩ := HL.out.e.ro kk (by omega)
            rw [rwR_oth hos] at hok h9 hmap hcl
            haveI := h9.c0
            haveI := h9.c1
            haveI := h9.c2
            haveI := h9.c3
            haveI := h9.c4
            haveI := h9.c5
            haveI := h9.c6
            haveI := h9.c7
            haveI := h9.c8
            have hl : ds.length = (s.m.rw kk).bx.length := by rw [← hmap, List.length_map]
            have HOS := hide hos
            have HOK := hide hok
            have HDS := hide hds.rd
            have HMAP := hide hmap
            have HCL := hide hcl
            have i0 : (0 : Int) ≤ (kk : Int) := by omega
            have i1 : (kk : Int) < 11 := by omega
            clear hd hos hok hds hmap hcl h9
            by_cases hf : (s.m.rw kk).full = true
            · have HNX : Hid (m.sends now body dsts kk = { s with fl := s.fl ++ [(kk : Int)] }) := hide (by rw [HSA0.out hlt]; unfold send1; rw [if_pos HDM.out, if_pos (show (s.m.rw kk).full = true from hf)])
              have hf2 : 48 ≤ (s.m.rw kk).bx.length ∨ 34359738367 ≤ (s.m.rw kk).ba + (s.m.rw kk).bx.length := by
                unfold Rw.full at hf
                rw [Bool.or_eq_true, decide_eq_true_eq, decide_eq_true_eq] at hf
                exact hf
              have TP : Hid (∀ W, BdsR W A ds → Calls Tryz.prog 45 #[sndV (s.m.rw kk).ba A (s.m.rw kk).bx.length c', .slice BA body.length bc] W fun e w' => e = .returned (.tuple #[sndV 0 none 0 0, .int .i64 4]) ∧ Below W.heap.size W w') := hide (fun W hW => by
                have := push7_full (s.m.rw kk).ba A c' ds BA body.length bc W hW (by rw [hl]; exact HOK.out.bl) HOK.out.b0 (by rw [hl]; exact HOK.out.bm) (fun d hd => HOK.out.bb _ (by rw [← HMAP.out]; exact List.mem_map_of_mem hd)) hb0 hb1 (by rw [hl]; exact hf2)
                rw [hl] at this
                exact this)
              clear hf hf2
              go_wp2_with first
                | (go_at_call 43; (with_reducible refine (TH.out _ (HDR.out.stp16 (by exact blw))).mono ?_); rintro e w5 ⟨rfl, hb5⟩; haveI : Stp _ w5 := ⟨hb5⟩; clear hb5)
                | (go_at_call 45; (with_reducible refine (TP.out _ (HDS.out.step blw)).mono ?_); rintro e w6 ⟨rfl, hb6⟩; haveI : Stp _ w6 := ⟨hb6⟩; have zw6 : wd.heap.size + 1 ≤ w6.heap.size := Nat.le_trans zl.2.2 (Blw.size (a := wr) inferInstance); clear hb6)
                | (at_builtin; refine wpList_append_x Tryz.okI rfl (.tmp 68) (.tmp 70) rfl (wd.heap.size + 1) (.slice FA s.fl.length fc) s.fl.length (ics s.fl) 1 (ics [(kk : Int)]) ?_ ?_ ?_ ?_ ?_ ?_ ?_ ?_; go_must ((focus (first | rfl | (simp [Act.eval, Act.put]; done))); (focus (exact own_tc HL.out.f)); (focus (refine ⟨_, _, rfl, ?_⟩; exact reads_i1y _ _ _)); (focus (exact ics_one _)); (focus (unfold maxLen; omega)); (focus omega); (focus (first | omega | (simp; done) | (simp; omega) | exact blw.size | exact BoxAt.lt (n := w.heap.size) inferInstance)); intro v7 w7 ho7 hg7 ha7; obtain ⟨A7, c7, rfl, _, _⟩ := own_slice ho7; haveI : StpB (wd.heap.size + 1) _ w7 := ⟨grown_belowT hg7 (Nat.le_trans zw6 (Blw.size (a := w6) inferInstance)) (fun q hq => (HL.out.f.lt q hq).1)⟩; have O7 := hide ho7; have HG7 := hide hg7; have HA7 := hide ha7; clear ho7 hg7 ha7))
              go_roundw
              case rel =>
                have f1 := hide (HL.out.full (by exact blw) (kk : Int) O7.out HG7.out HA7.out (Gr.set (m := wd.heap.size) _ 2 (.slice A7 (s.fl.length + 1) c7) (List.mem_singleton.2 rfl)))
                exact ⟨kk + 1, _, by omega, by omega, by go_num, by rw [show kk + 1 - 1 = kk from rfl, HNX.out]; exact f1.out, inferInstance, inferInstance⟩
              case measure => simp [intOf]; omega
            · have hfl' : (s.m.rw kk).bx.length < 48 ∧ (s.m.rw kk).ba + (s.m.rw kk).bx.length < 34359738367 := by
                have h1 : (s.m.rw kk).full = false := by simpa using hf
                unfold Rw.full at h1
                rw [Bool.or_eq_false_iff, decide_eq_false_iff_not, decide_eq_false_iff_not] at h1
                omega
              obtain ⟨L, hLe⟩ : ∃ L, L = (s.m.rw kk).bx ++ [body] := ⟨_, rfl⟩
              have hLl : L.length = (s.m.rw kk).bx.length + 1 := by rw [hLe]; simp
              have hLb : ∀ b ∈ L, 1 ≤ b.length ∧ b.length ≤ 320 := fun b hb => by
                rw [hLe, List.mem_append] at hb
                rcases hb with hb | hb
                · exact HOK.out.bb b hb
                · rw [List.mem_singleton] at hb; subst hb; exact ⟨hb0, hb1⟩
              have hba0 := HOK.out.b0
              have hwq : IntKind.u64.wrap ((s.m.rw kk).ba + (L.length : Int)) = (s.m.rw kk).ba + L.length := IntWalk.u64_in _ (by omega)
              have hwl : IntKind.u64.wrap (L.length : Int) = (L.length : Int) := IntWalk.u64_in _ (by omega)
              have TP : Hid (∀ W, BdsR W A ds → Reads W W.heap.size 1 BA body.length (bcs body) → Calls Tryz.prog 45 #[sndV (s.m.rw kk).ba A (s.m.rw kk).bx.length c', .slice BA body.length bc] W (RetPush7 W (s.m.rw kk).ba L)) := hide (fun W hW hBW => by
                have := push7_s (s.m.rw kk).ba A c' ds BA body bc W hW (by rw [hl]; exact hfl'.1) HOK.out.b0 (by rw [hl]; exact hfl'.2) (fun d hd => HOK.out.bb _ (by rw [← HMAP.out]; exact List.mem_map_of_mem hd)) hBW hb0 hb1
                rw [hl, HMAP.out, ← hLe] at this
                exact this)
              have HNX : Hid (m.sends now body dsts kk = ⟨s.m.put kk ⟨(s.m.rw kk).cn, (s.m.rw kk).rl, (s.m.rw kk).ba, L, (s.m.rw kk).ak, if L.length = 1 then now else (s.m.rw kk).st⟩, s.fl, if L.length ≤ 8 then s.hs ++ [⟨kk, (s.m.rw kk).cn, (s.m.rw kk).ba + (L.length : Int), 0⟩] else s.hs⟩) := hide (by
                rw [HSA0.out hlt]
                unfold send1
                rw [if_pos HDM.out, if_neg (show ¬ (s.m.rw kk).full = true from hf), hLl]
                unfold Rw.push
                rw [← hLe]
                have e0 : ((s.m.rw kk).bx.length = 0) = ((s.m.rw kk).bx.length + 1 = 1) := propext (by omega)
                simp only [e0])
              have HOK2 : Hid (∀ st : Int, 0 ≤ st → st ≤ 18446744073709551615 → RwOk ⟨(s.m.rw kk).cn, (s.m.rw kk).rl, (s.m.rw kk).ba, L, (s.m.rw kk).ak, st⟩) := hide (fun st g0 g1 => ⟨by simp only; omega, HOK.out.b0, by simp only; omega, hLb, g0, g1⟩)
              have st0 := HOK.out.s0
              have st1 := HOK.out.s1
              have hL9 : L.length ≤ 48 := by omega
              have hbL : (s.m.rw kk).ba + (L.length : Int) ≤ 34359738367 := by omega
              have HLB := hide hLb
              clear hf hLe hLb hLl
              go_upto_region 17 with first
                | (go_at_call 43; (with_reducible refine (TH.out _ (HDR.out.stp16 (by exact blw))).mono ?_); rintro e w5 ⟨rfl, hb5⟩; haveI : Stp _ w5 := ⟨hb5⟩; clear hb5)
                | (go_at_call 45; (with_reducible refine (TP.out _ (HDS.out.step blw) (HBR.out.stp16 (by exact blw))).mono ?_); rintro e w6 ⟨A6, c6, ds6, rfl, hm6, hN6, hb6, hc6⟩; have hB6 : wr.heap.size ≤ w5.heap.size := Blw.size (a := wr) inferInstance; haveI : Stp _ w6 := ⟨hb6⟩; have hBW6 : Below wr.heap.size wr w6 := blw; have zr6 := hBW6.size; haveI : LtN b w6.heap.size := ⟨by omega⟩; haveI : LtN wd.heap.size w6.heap.size := ⟨by omega⟩; haveI : LtN w.heap.size w6.heap.size := ⟨by omega⟩; have HM6 := hide hm6; have HN6 := hide hN6; have HB6 := hide hB6; have HBW6 := hide hBW6; have HC6 := hide hc6; clear hb6 hm6 hN6 hB6 hBW6 hc6)
              have TD0 : Hid (∀ W, W9 b kk w6 W → Calls Tryz.prog 46 #[sndV (s.m.rw kk).ba A6 L.length c6] W (RetZ W (min L.length 8 : Nat))) := hide (fun W hW => by
                have hl6 : ds6.length = L.length := by rw [← HM6.out, List.length_map]
                have := due7_s (s.m.rw kk).ba A6 c6 ds6 W (HN6.out.gr16 hW.gr (fun i hi => by rw [List.mem_singleton] at hi; subst hi; have := HB6.out; omega)).o (by omega) hba0 (by rw [hl6]; exact hbL) (fun d hd => HLB.out _ (by rw [← HM6.out]; exact List.mem_map_of_mem hd))
                rw [hl6] at this
                exact this)
              go_upto_region 19 with fail
              go_region_held3 (fun w' => w'.cell? ⟨x, 2, none⟩ = some (.slice (some ⟨b, 0, none⟩) 11 c) ∧ w'.cell? ⟨w6.heap.size, 0, none⟩ = some (.int .u64 (s.m.rw kk).ba) ∧ w'.cell? ⟨w6.heap.size, 1, none⟩ = some (.slice A6 L.length c6)) ((refine ⟨?_, ?_, ?_⟩ <;> (rw [cell?_box]; rfl))) (first | fail)
              all_goals
                rw [show kk * 9 + 2 + 1 = kk * 9 + 3 from rfl]
                by_cases h1 : L.length = 1
                · have e1 : ((L.length : Int) == 1) = true := by rw [h1]; rfl
                  have H1 := hide h1
                  clear h1
                  by_cases h8 : L.length ≤ 8
                  · have hq : ((min L.length 8 : Nat) : Int) = (L.length : Int) := by omega
                    have TD : Hid (∀ W, W9 b kk w6 W → Calls Tryz.prog 46 #[sndV (s.m.rw kk).ba A6 L.length c6] W (RetZ W (L.length : Int))) := hide (fun W hW => by have := TD0.out W hW; rw [hq] at this; exact this)
                    have H8 := hide h8
                    clear h8 hq
                    go_upto_region 22 with fail
                    go_region_held3 (fun w' => w'.cell? ⟨w6.heap.size, 0, none⟩ = some (.int .u64 (s.m.rw kk).ba) ∧ w'.cell? ⟨w6.heap.size, 1, none⟩ = some (.slice A6 L.length c6)) ((refine ⟨?_, ?_⟩ <;> (rw [cell?_box]; rfl))) (first | (go_at_call 46; (with_reducible refine (TD.out _ inferInstance).mono ?_); rintro e w9 ⟨rfl, hb9⟩; haveI : Stp _ w9 := ⟨hb9⟩; have z9 : w6.heap.size ≤ w9.heap.size := (Trc.h (C := [b]) (a := w6)).g.size; clear hb9) | fail)
                    all_goals
                      go_upto_region 23 with fail
                      go_region_held3 (fun w' => w'.cell? ⟨x, 2, none⟩ = some (.slice (some ⟨b, 0, none⟩) 11 c) ∧ w'.cell? ⟨b, kk * 9, none⟩ = some (.int .u64 (s.m.rw kk).cn) ∧ w'.cell? ⟨w6.heap.size, 0, none⟩ = some (.int .u64 (s.m.rw kk).ba) ∧ w'.cell? ⟨w6.heap.size, 1, none⟩ = some (.slice A6 L.length c6)) ((refine ⟨?_, ?_, ?_, ?_⟩ <;> (first | (rw [cell?_box]; rfl) | exact CellAt.h))) (first | (refine step_append_x Tryz.okHd rfl (.tmp 99) (.tmp 117) rfl (wd.heap.size + 1) (.slice HA s.hs.length hc) s.hs.length (hcs s.hs) 1 (hcs [⟨kk, (s.m.rw kk).cn, (s.m.rw kk).ba + (L.length : Int), 0⟩]) ?_ ?_ ?_ ?_ ?_ ?_ ?_ ?_; go_must ((focus (first | rfl | (simp [Act.eval, Act.put]; done))); (focus (exact own_kp HL.out.h)); (focus (refine ⟨_, _, by first | rfl | (simp [Act.eval, Act.put]; done), ?_⟩; exact reads_hd1x _ _ ⟨kk, (s.m.rw kk).cn, (s.m.rw kk).ba + (L.length : Int), 0⟩)); (focus (exact hc_one _)); (focus (unfold maxLen; omega)); (focus omega); (focus (first | omega | (simp; done) | (simp; omega) | exact blw.size | exact BoxAt.lt (n := w.heap.size) inferInstance)); intro v7 w7 ho7 hg7 ha7; obtain ⟨A7, c7, rfl, _, _⟩ := own_slice ho7; haveI : StpB (wd.heap.size + 1) _ w7 := ⟨grown_belowT hg7 (Nat.le_trans (show wd.heap.size + 1 ≤ wr.heap.size by omega) (Nat.le_trans zr6 (Trc.h (C := [b]) (a := w6)).g.size)) (fun q hq => (HL.out.h.lt q hq).1)⟩; have O7 := hide ho7; have HG7 := hide hg7; have HA7 := hide ha7; haveI : BoxAt w7 w6.heap.size #[.int .u64 (s.m.rw kk).ba, .slice A6 L.length c6] 68 := ⟨(hg7.block w6.heap.size (BoxAt.lt (n := w6.heap.size) inferInstance) (fun e => by have := HL.out.hlt _ (mem_ownL.2 e.symm); omega)).trans BoxAt.eq⟩; clear ho7 hg7 ha7)) | fail)
                      all_goals
                        have HSA := hide (snd_app2 (b := b) (w6 := w6) (v := .slice HA s.hs.length hc) (v' := .slice A7 (s.hs.length + 1) c7) HG7.out HA7.out)
                        have HNY := hide (HNX.out.trans (by rw [if_pos H8.out, if_pos H1.out]))
                        go_wp2_with fail
                        go_roundw
                        case rel =>
                          have f1 := hide (HL.out.push HOS.out (W3 := w6) HBW6.out HB6.out (A := A6) (cc := c6) HN6.out (hv' := .slice A7 (s.hs.length + 1) c7) (hs' := s.hs ++ [⟨kk, (s.m.rw kk).cn, (s.m.rw kk).ba + (L.length : Int), 0⟩]) HSA.out.2 HSA.out.1 (o9_app (W9 := inferInstance) HG7.out (fun hm => by have := HL.out.hlt _ hm; omega) hblr) inferInstance (by rw [List.length_append, hcs_app]; exact own_kp O7.out) (r' := ⟨(s.m.rw kk).cn, (s.m.rw kk).rl, (s.m.rw kk).ba, L, (s.m.rw kk).ak, now⟩) (HOK2.out _ now0 now1) (rr9_mk inferInstance inferInstance inferInstance inferInstance inferInstance inferInstance inferInstance inferInstance inferInstance) HM6.out HC6.out)
                          exact ⟨kk + 1, _, by omega, by omega, by go_num, by rw [show kk + 1 - 1 = kk from rfl, HNY.out]; exact f1.out, inferInstance, inferInstance⟩
                        case measure => simp [intOf]; omega
                  · have hq : ((min L.length 8 : Nat) : Int) = 8 := by omega
                    have TD : Hid (∀ W, W9 b kk w6 W → Calls Tryz.prog 46 #[sndV (s.m.rw kk).ba A6 L.length c6] W (RetZ W 8)) := hide (fun W hW => by have := TD0.out W hW; rw [hq] at this; exact this)
                    have e8 : ((8 : Int) == (L.length : Int)) = false := beq_eq_false_iff_ne.2 (by omega)
                    have H8 := hide h8
                    clear h8 hq
                    go_upto_region 22 with fail
                    go_region_held3 (fun w' => w'.cell? ⟨w6.heap.size, 0, none⟩ = some (.int .u64 (s.m.rw kk).ba) ∧ w'.cell? ⟨w6.heap.size, 1, none⟩ = some (.slice A6 L.length c6)) ((refine ⟨?_, ?_⟩ <;> (rw [cell?_box]; rfl))) (first | (go_at_call 46; (with_reducible refine (TD.out _ inferInstance).mono ?_); rintro e w9 ⟨rfl, hb9⟩; haveI : Stp _ w9 := ⟨hb9⟩; have z9 : w6.heap.size ≤ w9.heap.size := (Trc.h (C := [b]) (a := w6)).g.size; clear hb9) | fail)
                    all_goals
                      have HNY := hide (HNX.out.trans (by rw [if_neg H8.out, if_pos H1.out]))
                      go_wp2_with fail
                      go_roundw
                      case rel =>
                        have f1 := hide (HL.out.push HOS.out (W3 := w6) HBW6.out HB6.out (A := A6) (cc := c6) HN6.out (hv' := .slice HA s.hs.length hc) (hs' := s.hs) (W := w9) (fun i hi => .inl hi) ((Trc.h (C := [b]) (a := w6)).g.mono' (fun i hi => by rw [List.mem_singleton] at hi; subst hi; exact List.mem_cons_self ..)) (W9.o (self := inferInstance)) inferInstance (own_kp HL.out.h) (r' := ⟨(s.m.rw kk).cn, (s.m.rw kk).rl, (s.m.rw kk).ba, L, (s.m.rw kk).ak, now⟩) (HOK2.out _ now0 now1) (rr9_mk inferInstance inferInstance inferInstance inferInstance inferInstance inferInstance inferInstance inferInstance inferInstance) HM6.out HC6.out)
                        exact ⟨kk + 1, _, by omega, by omega, by go_num, by rw [show kk + 1 - 1 = kk from rfl, HNY.out]; exact f1.out.below (by exact blw), inferInstance, inferInstance⟩
                      case measure => simp [intOf]; omega
                · have e1 : ((L.length : Int) == 1) = false := beq_eq_false_iff_ne.2 (by omega)
                  have H1 := hide h1
                  clear h1
                  by_cases h8 : L.length ≤ 8
                  · have hq : ((min L.length 8 : Nat) : Int) = (L.length : Int) := by omega
                    have TD : Hid (∀ W, W9 b kk w6 W → Calls Tryz.prog 46 #[sndV (s.m.rw kk).ba A6 L.length c6] W (RetZ W (L.length : Int))) := hide (fun W hW => by have := TD0.out W hW; rw [hq] at this; exact this)
                    have H8 := hide h8
                    clear h8 hq
                    go_upto_region 22 with fail
                    go_region_held3 (fun w' => w'.cell? ⟨w6.heap.size, 0, none⟩ = some (.int .u64 (s.m.rw kk).ba) ∧ w'.cell? ⟨w6.heap.size, 1, none⟩ = some (.slice A6 L.length c6)) ((refine ⟨?_, ?_⟩ <;> (rw [cell?_box]; rfl))) (first | (go_at_call 46; (with_reducible refine (TD.out _ inferInstance).mono ?_); rintro e w9 ⟨rfl, hb9⟩; haveI : Stp _ w9 := ⟨hb9⟩; have z9 : w6.heap.size ≤ w9.heap.size := (Trc.h (C := [b]) (a := w6)).g.size; clear hb9) | fail)
                    all_goals
                      go_upto_region 23 with fail
                      go_region_held3 (fun w' => w'.cell? ⟨x, 2, none⟩ = some (.slice (some ⟨b, 0, none⟩) 11 c) ∧ w'.cell? ⟨b, kk * 9, none⟩ = some (.int .u64 (s.m.rw kk).cn) ∧ w'.cell? ⟨w6.heap.size, 0, none⟩ = some (.int .u64 (s.m.rw kk).ba) ∧ w'.cell? ⟨w6.heap.size, 1, none⟩ = some (.slice A6 L.length c6)) ((refine ⟨?_, ?_, ?_, ?_⟩ <;> (first | (rw [cell?_box]; rfl) | exact CellAt.h))) (first | (refine step_append_x Tryz.okHd rfl (.tmp 99) (.tmp 117) rfl (wd.heap.size + 1) (.slice HA s.hs.length hc) s.hs.length (hcs s.hs) 1 (hcs [⟨kk, (s.m.rw kk).cn, (s.m.rw kk).ba + (L.length : Int), 0⟩]) ?_ ?_ ?_ ?_ ?_ ?_ ?_ ?_; go_must ((focus (first | rfl | (simp [Act.eval, Act.put]; done))); (focus (exact own_kp HL.out.h)); (focus (refine ⟨_, _, by first | rfl | (simp [Act.eval, Act.put]; done), ?_⟩; exact reads_hd1x _ _ ⟨kk, (s.m.rw kk).cn, (s.m.rw kk).ba + (L.length : Int), 0⟩)); (focus (exact hc_one _)); (focus (unfold maxLen; omega)); (focus omega); (focus (first | omega | (simp; done) | (simp; omega) | exact blw.size | exact BoxAt.lt (n := w.heap.size) inferInstance)); intro v7 w7 ho7 hg7 ha7; obtain ⟨A7, c7, rfl, _, _⟩ := own_slice ho7; haveI : StpB (wd.heap.size + 1) _ w7 := ⟨grown_belowT hg7 (Nat.le_trans (show wd.heap.size + 1 ≤ wr.heap.size by omega) (Nat.le_trans zr6 (Trc.h (C := [b]) (a := w6)).g.size)) (fun q hq => (HL.out.h.lt q hq).1)⟩; have O7 := hide ho7; have HG7 := hide hg7; have HA7 := hide ha7; haveI : BoxAt w7 w6.heap.size #[.int .u64 (s.m.rw kk).ba, .slice A6 L.length c6] 68 := ⟨(hg7.block w6.heap.size (BoxAt.lt (n := w6.heap.size) inferInstance) (fun e => by have := HL.out.hlt _ (mem_ownL.2 e.symm); omega)).trans BoxAt.eq⟩; clear ho7 hg7 ha7)) | fail)
                      all_goals
                        have HSA := hide (snd_app2 (b := b) (w6 := w6) (v := .slice HA s.hs.length hc) (v' := .slice A7 (s.hs.length + 1) c7) HG7.out HA7.out)
                        have HNY := hide (HNX.out.trans (by rw [if_pos H8.out, if_neg H1.out]))
                        go_wp2_with fail
                        go_roundw
                        case rel =>
                          have f1 := hide (HL.out.push HOS.out (W3 := w6) HBW6.out HB6.out (A := A6) (cc := c6) HN6.out (hv' := .slice A7 (s.hs.length + 1) c7) (hs' := s.hs ++ [⟨kk, (s.m.rw kk).cn, (s.m.rw kk).ba + (L.length : Int), 0⟩]) HSA.out.2 HSA.out.1 (o9_app (W9 := inferInstance) HG7.out (fun hm => by have := HL.out.hlt _ hm; omega) hblr) inferInstance (by rw [List.length_append, hcs_app]; exact own_kp O7.out) (r' := ⟨(s.m.rw kk).cn, (s.m.rw kk).rl, (s.m.rw kk).ba, L, (s.m.rw kk).ak, (s.m.rw kk).st⟩) (HOK2.out _ st0 st1) (rr9_mk inferInstance inferInstance inferInstance inferInstance inferInstance inferInstance inferInstance inferInstance inferInstance) HM6.out HC6.out)
                          exact ⟨kk + 1, _, by omega, by omega, by go_num, by rw [show kk + 1 - 1 = kk from rfl, HNY.out]; exact f1.out, inferInstance, inferInstance⟩
                        case measure => simp [intOf]; omega
                  · have hq : ((min L.length 8 : Nat) : Int) = 8 := by omega
                    have TD : Hid (∀ W, W9 b kk w6 W → Calls Tryz.prog 46 #[sndV (s.m.rw kk).ba A6 L.length c6] W (RetZ W 8)) := hide (fun W hW => by have := TD0.out W hW; rw [hq] at this; exact this)
                    have e8 : ((8 : Int) == (L.length : Int)) = false := beq_eq_false_iff_ne.2 (by omega)
                    have H8 := hide h8
                    clear h8 hq
                    go_upto_region 22 with fail
                    go_region_held3 (fun w' => w'.cell? ⟨w6.heap.size, 0, none⟩ = some (.int .u64 (s.m.rw kk).ba) ∧ w'.cell? ⟨w6.heap.size, 1, none⟩ = some (.slice A6 L.length c6)) ((refine ⟨?_, ?_⟩ <;> (rw [cell?_box]; rfl))) (first | (go_at_call 46; (with_reducible refine (TD.out _ inferInstance).mono ?_); rintro e w9 ⟨rfl, hb9⟩; haveI : Stp _ w9 := ⟨hb9⟩; have z9 : w6.heap.size ≤ w9.heap.size := (Trc.h (C := [b]) (a := w6)).g.size; clear hb9) | fail)
                    all_goals
                      have HNY := hide (HNX.out.trans (by rw [if_neg H8.out, if_neg H1.out]))
                      go_wp2_with fail
                      go_roundw
                      case rel =>
                        have f1 := hide (HL.out.push HOS.out (W3 := w6) HBW6.out HB6.out (A := A6) (cc := c6) HN6.out (hv' := .slice HA s.hs.length hc) (hs' := s.hs) (W := w9) (fun i hi => .inl hi) ((Trc.h (C := [b]) (a := w6)).g.mono' (fun i hi => by rw [List.mem_singleton] at hi; subst hi; exact List.mem_cons_self ..)) (W9.o (self := inferInstance)) inferInstance (own_kp HL.out.h) (r' := ⟨(s.m.rw kk).cn, (s.m.rw kk).rl, (s.m.rw kk).ba, L, (s.m.rw kk).ak, (s.m.rw kk).st⟩) (HOK2.out _ st0 st1) (rr9_mk inferInstance inferInstance inferInstance inferInstance inferInstance inferInstance inferInstance inferInstance inferInstance) HM6.out HC6.out)
                        exact ⟨kk + 1, _, by omega, by omega, by go_num, by rw [show kk + 1 - 1 = kk from rfl, HNY.out]; exact f1.out.below (by exact blw), inferInstance, inferInstance⟩
                      case measure => simp [intOf]; omega
          · have HNX : Hid (m.sends now body dsts kk = s) := hide (by rw [HSA0.out hlt]; unfold send1; rw [if_neg hd])
            have TH : Hid (∀ W, Reads W W.heap.size 1 DA dsts.length (ics dsts) → Calls Tryz.prog 43 #[.slice DA dsts.length dc, .int .i64 kk] W (RetB W false)) := hide (fun W hW => by have := has16_b DA dc dsts kk W hW hdl; rw [decide_eq_false hd] at this; exact this)
            clear hd
            go_wp2_with (go_at_call 43; (with_reducible refine (TH.out _ (HDR.out.stp16 (by exact blw))).mono ?_); rintro e w5 ⟨rfl, hb5⟩; haveI : Stp _ w5 := ⟨hb5⟩; clear hb5)
            go_roundw
            case rel => exact ⟨kk + 1, _, by omega, by omega, by go_num, by rw [show kk + 1 - 1 = kk from rfl, HNX.out]; exact HL.out.below blw, inferInstance, inferInstance⟩
            case measure => simp [intOf]; omega
        · have hke : kk = 11 := by omega
          subst hke
          have d0 : decide (((11 : Nat) : Int) ≤ 10) = false := by decide
          have HFN : Hid (∀ (W : World) (pv : Value) (ps : List Pm), Gr [wd.heap.size, w.heap.size] wr W → PmG w.heap.size W pv ps → ps.map Pm.x = (m.sendA body s).ps → RetSr w E x b c (s.m, m.sendA body s, 0) (.returned (.tuple #[.agg #[pv, .slice none 0 0, .slice FA s.fl.length fc], .int .i64 0])) W) := hide (fun W pv ps hW hp hm => by
            have hD : ∀ i ∈ [wd.heap.size, w.heap.size], i < wd.heap.size + 1 ∧ w.heap.size ≤ i := fun i hi => by
              rcases List.mem_cons.1 hi with rfl | hi
              · omega
              · rw [List.mem_singleton] at hi; subst hi; omega
            refine ⟨_, rfl, ⟨_, ps, _, [], _, rfl, hp, hm, .nil _ _, rfl, own_lo (own_same HL.out.f (fun i hi => hW.blk i (HL.out.f.lt i hi).2 (fun hm => by have := hD i hm; have := (HL.out.f.lt i hi).1; omega))) (by omega)⟩, HL.out.e.keep ⟨hW.mono' (fun i hi => ?_), fun i hi => .inl (by simp [hi])⟩ (hW.blk b hblr (fun hm => by have := hD b hm; omega)) HbE.out (fun i hi => Nat.lt_of_lt_of_le (HE.out.ltE i hi) (Nat.le_trans zw hW.size)), gr_fin16 HL.out.g hW (fun i hi => .inr (hD i hi).2)⟩
            rcases List.mem_cons.1 hi with rfl | hi
            · simp
            · rw [List.mem_singleton] at hi; subst hi; simp)
          by_cases hh : s.hs = []
          · have e0 : decide ((0 : Int) < (s.hs.length : Int)) = false := decide_eq_false (by rw [hh]; simp)
            have e0n : decide (0 < s.hs.length) = false := decide_eq_false (by rw [hh]; simp)
            have e0m : (0 < s.hs.length) = False := eq_false (by rw [hh]; simp)
            have HA0 : Hid ((m.sendA body s).ps = []) := hide (by unfold En.sendA; rw [if_pos hh])
            clear hh
            go_wp2_with fail
            refine bodyPost_ret (v := .tuple #[.agg #[.slice none 0 0, .slice none 0 0, .slice FA s.fl.length fc], .int .i64 0]) (by simp [results, Tryz.results23, go_sem]) rfl ?_
            rw [show (10 : Nat) = 11 - 1 from rfl, ← HST.out]
            exact HFN.out _ _ [] (((Gr.set (m := w.heap.size) _ 0 _ (by simp)).trans (Gr.set (m := w.heap.size) _ 1 _ (by simp))).trans (Gr.set (m := w.heap.size) _ 2 _ (by simp))) (.nil _ _) HA0.out.symm
          · have e0 : decide ((0 : Int) < (s.hs.length : Int)) = true := decide_eq_true (by have := List.length_pos_iff.2 hh; omega)
            have e0n : decide (0 < s.hs.length) = true := decide_eq_true (by have := List.length_pos_iff.2 hh; omega)
            have e0m : (0 < s.hs.length) = True := eq_true (by have := List.length_pos_iff.2 hh; omega)
            have HA0 : Hid ((m.sendA body s).ps = [m.data body s.hs]) := hide (by unfold En.sendA; rw [if_neg hh])
            have TDa : Hid (∀ W, Below wr.heap.size wr W → Calls Tryz.prog 47 #[.pointer (some ⟨x, 0, none⟩), .slice BA body.length bc, .slice HA s.hs.length hc] W (RetDr W m.n m.i HA s.hs.length hc body)) := hide (fun W hW => by
              have := data16r_s W (HL.out.e.below hW) BA bc body HA s.hs.length hc (HBR.out.stp16 hW) (by omega)
              rw [HSI.out.1, HSI.out.2] at this
              exact this)
            clear hh
            go_wp2_with (go_at_call 47; (with_reducible refine (TDa.out _ (by exact blw)).mono ?_); rintro e w8 ⟨A8, c8, rfl, ho8, hb8⟩; haveI : Stp _ w8 := ⟨hb8⟩; have O8 := hide ho8; have zr8 : wr.heap.size ≤ w8.heap.size := Blw.size (a := wr) inferInstance; clear ho8 hb8)
            refine bodyPost_ret (v := .tuple #[.agg #[.slice (some ⟨w8.heap.size, 0, none⟩) 1 1, .slice none 0 0, .slice FA s.fl.length fc], .int .i64 0]) (by simp [results, Tryz.results23, go_sem]) rfl ?_
            rw [show (10 : Nat) = 11 - 1 from rfl, ← HST.out]
            have hw8 : Below wr.heap.size wr w8 := blw
            have HW8 := hide hw8
            clear hw8
            have key : ∀ Wf : World, Gr [wd.heap.size, w.heap.size] w8 Wf → BoxAt Wf w8.heap.size #[.int .i64 2, .int .i64 m.n, .int .u64 m.i, .int .i64 8, .slice HA s.hs.length hc, .slice A8 body.length c8, .int .i64 0, .int .u64 0, .int .u64 0, .slice none 0 0] 43 → RetSr w E x b c (s.m, m.sendA body s, 0) (.returned (.tuple #[.agg #[.slice (some ⟨w8.heap.size, 0, none⟩) 1 1, .slice none 0 0, .slice FA s.fl.length fc], .int .i64 0])) Wf := fun Wf g9 hbx => by
              have g10 : Gr [wd.heap.size, w.heap.size] wr Wf := (Gr.of HW8.out).trans g9
              refine HFN.out Wf _ [⟨⟨2, m.n, m.i, 8, s.hs, body, 0, 0, 0, []⟩, HA, hc, A8, c8⟩] g10 ⟨own_box1 hbx rfl (by omega), fun p hp => ?_⟩ (by rw [HA0.out]; rfl)
              rw [List.mem_singleton] at hp
              subst hp
              exact send_pm HL.out.h O8.out (by omega) (by omega) zr8 g10 g9 (fun i hi => by
                rcases List.mem_cons.1 hi with rfl | hi
                · omega
                · rw [List.mem_singleton] at hi; subst hi; omega)
            exact key _ (((((Gr.set (C := [wd.heap.size, w.heap.size]) (m := wd.heap.size) w8 0 (.slice (some ⟨w8.heap.size, 0, none⟩) 1 1) (by simp)).trans (Gr.set (C := [wd.heap.size, w.heap.size]) (m := w.heap.size) _ 0 (.slice (some ⟨w8.heap.size, 0, none⟩) 1 1) (by simp))).trans (Gr.set (C := [wd.heap.size, w.heap.size]) (m := w.heap.size) _ 1 (.slice none 0 0) (by simp))).trans (Gr.set (C := [wd.heap.size, w.heap.size]) (m := w.heap.size) _ 2 (.slice FA s.fl.length fc) (by simp))).trans (Gr.of (below_alloc _ _))) inferInstance
end
end Go.Proofs.YtniogmefbjfoaaaGreat

namespace Go.Proofs.YtniogmefbjfoaaaGreat
set_option linter.unusedSimpArgs false
set_option linter.unusedVariables false
set_option linter.unusedSectionVars false
open Go.RowKit Go.Maps

section
variable {E : List Nat} {x b c : Nat} {m : En}
theorem sndr_no {w W : World} (h : RfM w E x b c m) (hb : Below w.heap.size w W) (e : Int) : RetSr w E x b c (m, an0, e) (.returned (.tuple #[nilA, .int .i64 e])) W := ⟨_, rfl, .nil _ _, h.below hb, .of hb⟩
set_option maxRecDepth 100000 in
set_option maxHeartbeats 8000000 in
theorem send16r_n (w : World) (h : RfM w E x b c m) (now : Int) (BA : Option Addr) (bc : Nat) (body : List Int) (hbl : body.length ≤ 1000000)
    (DA : Option Addr) (dc : Nat) (dsts : List Int) (hD : Reads w w.heap.size 1 DA dsts.length (ics dsts)) (hdl : dsts.length ≤ 1000000) (hno : ¬ m.sendE body dsts = 0) :
    Calls Tryz.prog 23 #[.pointer (some ⟨x, 0, none⟩), .int .u64 now, .slice BA body.length bc, .slice DA dsts.length dc] w (RetSr w E x b c (m, an0, m.sendE body dsts)) := by
  have HE := hide h
  haveI := h.bx
  haveI : LtN x w.heap.size := ⟨h.bx.lt⟩
  have HD := hide hD
  have HNO := hide hno
  have hnl := nodes_len m
  have TN : Hid (∀ W, Below w.heap.size w W → Calls Tryz.prog 20 #[.pointer (some ⟨x, 0, none⟩)] W fun e w' => ∃ v, e = .returned v ∧ w'.ownsRow W.heap.size 3 1 v m.nodes.length (ics m.nodes) ∧ Below W.heap.size W w') := hide (fun W hW => nodes16r_s W (h.below hW))
  clear h hD hno
  by_cases g0 : body.length < 1
  · have er : Hid (m.sendE body dsts = 2) := hide (by unfold En.sendE; rw [if_pos (.inl (by omega))])
    have c1 : decide ((body.length : Int) < 1) = true := decide_eq_true (by omega)
    clear g0
    go_enter Tryz.func23, Tryz.ntmps23
    go_wp2_with fail
    refine bodyPost_ret (v := .tuple #[nilA, .int .i64 2]) (by simp [results, Tryz.results23, go_sem]) rfl ?_
    rw [er.out]
    exact sndr_no HE.out blw 2
  have c1 : decide ((body.length : Int) < 1) = false := decide_eq_false (by omega)
  by_cases g1 : 320 < body.length
  · have er : Hid (m.sendE body dsts = 2) := hide (by unfold En.sendE; rw [if_pos (.inr g1)])
    have c2 : decide ((320 : Int) < (body.length : Int)) = true := decide_eq_true (by omega)
    clear g1
    go_enter Tryz.func23, Tryz.ntmps23
    go_wp2_with fail
    refine bodyPost_ret (v := .tuple #[nilA, .int .i64 2]) (by simp [results, Tryz.results23, go_sem]) rfl ?_
    rw [er.out]
    exact sndr_no HE.out blw 2
  have c2 : decide ((320 : Int) < (body.length : Int)) = false := decide_eq_false (by omega)
  have er : Hid (m.sendE body dsts = 5 ∧ (dsts = [] ∨ ¬ ∀ n ∈ dsts, m.isR n = true)) := hide (by
    have h1 := HNO.out
    unfold En.sendE at h1 ⊢
    rw [if_neg (by omega)] at h1 ⊢
    by_cases h2 : dsts = [] ∨ ¬ ∀ n ∈ dsts, m.isR n = true
    · rw [if_pos h2]; exact ⟨rfl, h2⟩
    · rw [if_neg h2] at h1; exact absurd rfl h1)
  clear g0 g1
  go_enter Tryz.func23, Tryz.ntmps23
  go_wp2_with fail
  go_loopw [10] (fun j wr => ∃ k : Nat, k ≤ dsts.length ∧ j = .int .i64 k ∧ (∀ n ∈ dsts.take k, m.isR n = true) ∧ Below w.heap.size w wr ∧ BoxAt wr w.heap.size #[.slice none 0 0, .slice none 0 0, .slice none 0 0] 52) (fun j _ => dsts.length - (intOf j).toNat)
  case atStart => exact ⟨0, Nat.zero_le _, rfl, by simp, blw, inferInstance⟩
  case round =>
    obtain ⟨k, hk, rfl, hall, hBw, hb8⟩ := hrel
    haveI : Blw w wr := ⟨hBw⟩
    haveI := hb8
    have hsz := hBw.size
    have hsz1 := hb8.lt
    have HBW := hide hBw
    have HALL := hide hall
    clear hBw hall
    by_cases hlt : k < dsts.length
    · have hRd := (HD.out.below HBW.out)
      obtain ⟨q, off, n, rfl, hq, hn, g1⟩ := Reads.atI hRd hlt
      haveI : CellAt wr q (off + k) (.int .i64 n) := ⟨Nat.lt_of_lt_of_le hq (by omega), g1⟩
      have HN := hide hn
      have i0 : (0 : Int) ≤ (k : Int) := by omega
      have i1 : (k : Int) < (dsts.length : Int) := by omega
      have e9 : decide (n ∈ m.nodes) = m.isR n := by
        cases hr : m.isR n with
        | true => exact decide_eq_true (mem_nodes16.2 hr)
        | false => exact decide_eq_false (fun hm => by rw [mem_nodes16.1 hm] at hr; cases hr)
      have TH : Hid (∀ W A cc, Reads W W.heap.size 1 A m.nodes.length (ics m.nodes) → Calls Tryz.prog 43 #[.slice A m.nodes.length cc, .int .i64 n] W (RetB W (m.isR n))) := hide (fun W A cc hW => by have := has16_b A cc m.nodes n W hW (by omega); rw [e9] at this; exact this)
      obtain ⟨r, hr⟩ : ∃ r, r = m.isR n := ⟨_, rfl⟩
      rw [← hr] at TH
      have HIR := hide hr
      clear hRd hq hn g1 e9 hr
      go_upto_region 6 with fail
      go_region_held3 (fun w' => w'.cell? ⟨q, off + k, none⟩ = some (.int .i64 n)) ((exact CellAt.h)) (first
        | (go_at_call 20; (with_reducible refine (TN.out _ (by exact blw)).mono ?_); rintro e w1 ⟨v1, rfl, ho1, hb1⟩; obtain ⟨A1, cc1, rfl, _, _⟩ := own_slice ho1; haveI : Stp _ w1 := ⟨hb1⟩; have O1 := hide (Reads.of_own ho1); clear ho1 hb1)
        | (go_at_call 43; (with_reducible refine (TH.out _ _ _ (O1.out.stp16 (by exact blw))).mono ?_); rintro e w2 ⟨rfl, hb2⟩; haveI : Stp _ w2 := ⟨hb2⟩; clear hb2)
        | fail)
      all_goals
        cases r with
        | true =>
          go_wp2_with fail
          go_roundw
          case rel => exact ⟨k + 1, by omega, by go_num, fun y hy => by
            rw [take_succ_of HN.out, List.mem_append, List.mem_singleton] at hy
            rcases hy with hy | rfl
            · exact HALL.out y hy
            · exact HIR.out.symm, blw, inferInstance⟩
          case measure => simp [intOf]; omega
        | false =>
          go_wp2_with fail
          refine bodyPost_ret (v := .tuple #[nilA, .int .i64 5]) (by simp [results, Tryz.results23, go_sem]) rfl ?_
          rw [er.out.1]
          exact sndr_no HE.out blw 5
    · have hke : k = dsts.length := by omega
      subst hke
      have h0 : dsts = [] := by
        rcases er.out.2 with h1 | h1
        · exact h1
        · exact absurd (fun n hn => HALL.out n (by rw [List.take_of_length_le (Nat.le_refl _)]; exact hn)) h1
      have c3 : ((dsts.length : Int) == 0) = true := by rw [h0]; rfl
      clear h0
      go_wp2_with fail
      refine bodyPost_ret (v := .tuple #[nilA, .int .i64 5]) (by simp [results, Tryz.results23, go_sem]) rfl ?_
      rw [er.out.1]
      exact sndr_no HE.out blw 5
/-- Send, of anything -/
theorem send16r_s (w : World) (h : RfM w E x b c m) (now : Int) (now0 : 0 ≤ now) (now1 : now ≤ 18446744073709551615) (BA : Option Addr) (bc : Nat) (body : List Int) (hB : RO w E 1 BA body.length (bcs body)) (hbl : body.length ≤ 1000000)
    (DA : Option Addr) (dc : Nat) (dsts : List Int) (hD : RO w E 1 DA dsts.length (ics dsts)) (hdl : dsts.length ≤ 1000000) :
    Calls Tryz.prog 23 #[.pointer (some ⟨x, 0, none⟩), .int .u64 now, .slice BA body.length bc, .slice DA dsts.length dc] w (RetSr w E x b c (m.send now body dsts)) := by
  unfold En.send
  by_cases hno : m.sendE body dsts = 0
  · rw [if_pos hno]
    have h1 : ¬ (body.length = 0 ∨ 320 < body.length) ∧ ¬ (dsts = [] ∨ ¬ ∀ n ∈ dsts, m.isR n = true) := by
      unfold En.sendE at hno
      by_cases g1 : body.length = 0 ∨ 320 < body.length
      · rw [if_pos g1] at hno; omega
      · rw [if_neg g1] at hno
        refine ⟨g1, fun g2 => ?_⟩
        rw [if_pos g2] at hno
        omega
    refine send16r_y w h now now0 now1 BA bc body hB (by omega) (by omega) DA dc dsts hD hdl ?_ ?_
    · exact List.length_pos_iff.2 (fun e => h1.2 (.inl e))
    · exact Classical.byContradiction (fun e => h1.2 (.inr e))
  · rw [if_neg hno]
    exact send16r_n w h now BA bc body hbl DA dc dsts hD.1 hdl hno
end
end Go.Proofs.YtniogmefbjfoaaaGreat

namespace Go.Proofs.YtniogmefbjfoaaaGreat
set_option linter.unusedSimpArgs false
set_option linter.unusedVariables false
set_option linter.unusedSectionVars false
open Go.RowKit Go.Maps

/-- the program's end and the document's; what lies in E somebody writes -/
structure Two (W : World) (E C : List Nat) (x y b c : Nat) (m m' : En) : Prop where
  e : EnO W E C x m
  r : RfM W E y b c m'
  bC : b ∉ C
section
variable {X W : World} {E C : List Nat} {x y b c : Nat} {m m' : En}
theorem Two.ltE (h : Two W E C x y b c m m') : ∀ i ∈ E, i < W.heap.size := h.r.ltE
theorem Two.bE (h : Two W E C x y b c m m') : b ∈ E := h.r.bE
theorem Two.CE (h : Two W E C x y b c m m') : ∀ i ∈ C, i ∈ E := by
  obtain ⟨⟨rb, fb, rp, cp, h⟩, _, _⟩ := h
  exact h.CE
theorem Two.ltC (h : Two W E C x y b c m m') : ∀ i ∈ C, i < W.heap.size := fun i hi => h.ltE i (h.CE i hi)
theorem Two.more (h : Two X E C x y b c m m') (hb : Below X.heap.size X W) {E' : List Nat} (hn : ∀ i ∈ E', i ∈ E ∨ X.heap.size ≤ i) (hC : ∀ i ∈ E, i ∈ E') (hl : ∀ i ∈ E', i < W.heap.size) : Two W E' C x y b c m m' := by
  obtain ⟨⟨rb, fb, rp, cp, he⟩, hr, hn'⟩ := h
  exact ⟨⟨rb, fb, rp, cp, he.more hb hn (fun i hi => hC i (he.CE i hi)) hl⟩, hr.keep ⟨.of hb, hn⟩ (hb.block b hr.fz.lt) (hC b hr.bE) hl, hn'⟩
theorem Two.below (h : Two X E C x y b c m m') (hb : Below X.heap.size X W) : Two W E C x y b c m m' := h.more hb (fun _ hi => .inl hi) (fun _ hi => hi) (fun i hi => Nat.lt_of_lt_of_le (h.ltE i hi) hb.size)
theorem Two.to (h : Two X E C x y b c m m') (hb : Below X.heap.size X W) : Two W (rgB X.heap.size W ++ E) C x y b c m m' := h.more hb (fun i hi => by
    rcases List.mem_append.1 hi with h1 | h1
    · exact .inr (mem_rgB.1 h1).1
    · exact .inl h1) (fun _ hi => List.mem_append_right _ hi) (fun i hi => by
    rcases List.mem_append.1 hi with h1 | h1
    · exact (mem_rgB.1 h1).2
    · exact Nat.lt_of_lt_of_le (h.ltE i h1) hb.size)
theorem Two.less (h : Two W E C x y b c m m') {E' : List Nat} (hs : ∀ i ∈ E', i ∈ E) (hC : ∀ i ∈ C, i ∈ E') (hb : b ∈ E') : Two W E' C x y b c m m' := by
  obtain ⟨⟨rb, fb, rp, cp, he⟩, hr, hn'⟩ := h
  exact ⟨⟨rb, fb, rp, cp, he.less hs hC⟩, hr.re (fun i hi => .inl (hs i hi)) hb (fun i hi => hr.ltE i (hs i hi)), hn'⟩
/-- blocks that anybody writes, but neither end's own, are written -/
theorem Two.wr (h : Two X E C x y b c m m') {D : List Nat} (g : Gr D X W) (hD : ∀ i ∈ D, i ∈ E) (hC : ∀ i ∈ C, i ∉ D) (hb : b ∉ D) : Two W E C x y b c m m' := by
  have hl : ∀ i ∈ E, i < W.heap.size := fun i hi => Nat.lt_of_lt_of_le (h.ltE i hi) g.size
  have hCl := h.ltC
  obtain ⟨⟨rb, fb, rp, cp, he⟩, hr, hn'⟩ := h
  exact ⟨⟨rb, fb, rp, cp, he.keep (.of (g.mono' hD)) (fun i hi => g.blk i (hCl i hi) (hC i hi)) he.CE hl⟩, hr.keep (.of (g.mono' hD)) (g.blk b hr.fz.lt hb) hr.bE hl, hn'⟩
/-- a call of the program's end -/
theorem Two.prog (h : Two X E C x y b c m m') {D C' : List Nat} {m2 : En} (hE : EnO W (D ++ (C' ++ E)) C' x m2) (hD : ∀ i ∈ D, X.heap.size ≤ i ∧ i < W.heap.size) (t : Tr C C' X W) : Two W (D ++ (C' ++ E)) C' x y b c m2 m' := by
  have hCE := h.CE
  have hl := h.ltE
  obtain ⟨_, hr, hn'⟩ := h
  have hb : b ∉ C' := fun hm => by
    rcases t.n b hm with h1 | h1
    · exact hn' h1
    · have := hr.fz.lt; omega
  have hC'l : ∀ i ∈ C', i < W.heap.size := by
    obtain ⟨rb, fb, rp, cp, he⟩ := hE
    exact fun i hi => he.ltE i (he.CE i hi)
  refine ⟨hE, hr.keep ⟨t.g.mono' hCE, fun i hi => ?_⟩ (t.g.blk b hr.fz.lt hn') (List.mem_append_right _ (List.mem_append_right _ hr.bE)) (fun i hi => ?_), hb⟩
  · rcases List.mem_append.1 hi with h1 | h1
    · exact .inr (hD i h1).1
    rcases List.mem_append.1 h1 with h1 | h1
    · rcases t.n i h1 with h2 | h2
      · exact .inl (hCE i h2)
      · exact .inr h2
    · exact .inl h1
  · rcases List.mem_append.1 hi with h1 | h1
    · exact (hD i h1).2
    rcases List.mem_append.1 h1 with h1 | h1
    · exact hC'l i h1
    · exact Nat.lt_of_lt_of_le (hl i h1) t.g.size
/-- a call of the document's end -/
theorem Two.ref (h : Two X E C x y b c m m') {m2 : En} (hr2 : RfM W E y b c m2) (g : Gr [b] X W) : Two W E C x y b c m m2 := by
  have hCl := h.ltC
  obtain ⟨⟨rb, fb, rp, cp, he⟩, hr, hn'⟩ := h
  exact ⟨⟨rb, fb, rp, cp, he.keep (.of (g.mono' (fun i hi => by rw [List.mem_singleton] at hi; subst hi; exact hr.bE))) (fun i hi => g.blk i (hCl i hi) (fun hm => by rw [List.mem_singleton] at hm; subst hm; exact hn' hi)) he.CE hr2.ltE⟩, hr2, hn'⟩
end
/-! ### an answer is written over -/
/-- few enough to be gone through -/
structure An.small (a : An) : Prop where
  p : a.ps.length ≤ 1000000
  h : ∀ p ∈ a.ps, p.hs.length ≤ 1000000 ∧ p.bs.length ≤ 1000000
  b : a.bs.length ≤ 1000000
  t : ∀ x ∈ a.bs, x.2.length ≤ 1000000
theorem nf_frz {W : World} {b : Nat} {A : Option Addr} {n off : Nat} (h : NF W A n) (hn : 0 < n) (hA : A = some ⟨b, off, none⟩) : b < W.heap.size ∧ ∀ o, W.frozen? ⟨b, o, none⟩ = false := by
  obtain ⟨cs, t, hh⟩ := h hn _ hA
  exact ⟨(Array.getElem?_eq_some_iff.1 hh).1, fun o => by
    simp only at hh
    unfold World.frozen?
    rw [hh]
    simp⟩
theorem HdO.of {W : World} {A : Option Addr} {l : List Hd} (h : Reads W W.heap.size 4 A l.length (hcs l)) (f : NF W A l.length) : HdO W A l.length := fun j hj => by
  obtain ⟨b, off, p, hA, hb, _, g⟩ := h.at4 hj
  exact ⟨b, off, p.d, p.c, p.s, p.i, hA, hb, (nf_frz f (by omega) hA).2, g⟩
theorem BdO.of {W : World} {A : Option Addr} {l : List Int} (h : Reads W W.heap.size 1 A l.length (bcs l)) (f : NF W A l.length) : BdO W A l.length := fun j hj => by
  obtain ⟨b, off, p, hA, hb, _, g⟩ := h.atB hj
  exact ⟨b, off, p, hA, hb, (nf_frz f (by omega) hA).2, g⟩
/-- an answer in memory, what its packets and texts are made of in the blocks of D -/
def AnsL (base : Nat) (D : List Nat) (W : World) (v : Value) (a : An) : Prop := ∃ pv ps bv cs fv, v = .agg #[pv, bv, fv] ∧ PmG base W pv ps ∧ ps.map Pm.x = a.ps ∧ CbG base W bv cs ∧ cs.map Cb.pl = a.bs ∧ W.ownsRow base 3 1 fv a.fl.length (ics a.fl) ∧ (∀ p ∈ ps, (0 < p.x.hs.length → ∀ q, p.HA = some q → q.block ∈ D) ∧ (0 < p.x.bs.length → ∀ q, p.BA = some q → q.block ∈ D)) ∧ ∀ x ∈ cs, 0 < x.b.bs.length → ∀ q, x.b.A = some q → q.block ∈ D
theorem AnsL.of {base B0 : Nat} {w : World} {v : Value} {a : An} (h : AnsI base B0 w v a) : AnsL base (rgB B0 w) w v a := by
  obtain ⟨pv, ps, bv, cs, fv, rfl, h2, h3, h4, h5, h6, h7, h8⟩ := h
  have hin : ∀ (A : Option Addr) (k n : Nat) (xs : List Value), Reads w w.heap.size k A n xs → 0 < n → (∀ a, A = some a → B0 ≤ a.block) → ∀ a, A = some a → a.block ∈ rgB B0 w := fun A k n xs hr hn hB a ha => by
    obtain ⟨b, off, e, hb, _⟩ := hr.2 hn
    have h1 := hB a ha
    rw [e] at ha
    injection ha with ha
    subst ha
    exact mem_rgB.2 ⟨h1, hb⟩
  exact ⟨pv, ps, bv, cs, fv, rfl, h2, h3, h4, h5, h6, fun p hp => ⟨fun h0 => hin _ _ _ _ (h7 p hp).h.1 h0 (h7 p hp).nh, fun h0 => hin _ _ _ _ (h7 p hp).b.1 h0 (h7 p hp).nb⟩, fun x hx h0 => hin _ _ _ _ (h8 x hx).r.1 h0 (h8 x hx).n⟩
theorem AnsL.m {base : Nat} {D : List Nat} {W : World} {v : Value} {a : An} (h : AnsL base D W v a) : AnsM base W v a := by
  obtain ⟨pv, ps, bv, cs, fv, h1, h2, h3, h4, h5, h6, _⟩ := h
  exact ⟨pv, ps, bv, cs, fv, h1, h2, h3, h4, h5, h6⟩
theorem AnsL.gr {base : Nat} {D C : List Nat} {X W : World} {v : Value} {a : An} (h : AnsL base D X v a) (hg : Gr C X W) (hC : ∀ i ∈ C, i < base) : AnsL base D W v a := by
  obtain ⟨pv, ps, bv, cs, fv, h1, h2, h3, h4, h5, h6, h7, h8⟩ := h
  exact ⟨pv, ps, bv, cs, fv, h1, h2.gr hg hC, h3, h4.gr hg hC, h5, own_same h6 (fun i hi => hg.blk i (h6.lt i hi).2 (fun hm => by have := hC i hm; have := (h6.lt i hi).1; omega)), h7, h8⟩
theorem spoil_t (w : World) (base : Nat) (D : List Nat) (v : Value) (a : An) (h : AnsL base D w v a) (hD : ∀ j ∈ D, j < w.heap.size) (hs : a.small) :
    Calls Tryz.prog 31 #[v] w fun e W => e = .returned (.tuple #[]) ∧ Gr D w W := by
  obtain ⟨pv, ps, bv, cs, fv, rfl, h2, h3, h4, h5, h6, h7, h8⟩ := h
  obtain ⟨A1, c1, rfl, _⟩ := own_slice h2.row
  obtain ⟨A2, c2, rfl, _⟩ := own_slice h4.row
  obtain ⟨A3, c3, rfl, _⟩ := own_slice h6
  refine (spoil16_s w D A1 c1 ps A2 c2 cs A3 a.fl.length c3 (Reads.of_own h2.row) (Reads.of_own h4.row) (fun p hp => ?_) (fun x hx => ?_) hD (by rw [← List.length_map (f := Pm.x), h3]; exact hs.p) (by rw [← List.length_map (f := Cb.pl), h5]; exact hs.b)).mono ?_
  · have k := h2.el p hp
    have hm := hs.h p.x (by rw [← h3]; exact List.mem_map_of_mem hp)
    exact ⟨⟨.of k.h.1 k.fh, .of k.b.1 k.fb⟩, (h7 p hp).1, (h7 p hp).2, hm.1, hm.2⟩
  · have k := h4.el x hx
    have hm := hs.t (Cb.pl x) (by rw [← h5]; exact List.mem_map_of_mem hx)
    exact ⟨.of k.r.1 k.f, h8 x hx, hm⟩
  · rintro e W ⟨rfl, _, hg⟩
    exact ⟨rfl, hg⟩
end Go.Proofs.YtniogmefbjfoaaaGreat

namespace Go.Proofs.YtniogmefbjfoaaaGreat
set_option linter.unusedSimpArgs false
set_option linter.unusedVariables false
set_option linter.unusedSectionVars false
open Go.RowKit Go.Maps

def Rw.good (r : Rw) : Prop := ∀ b ∈ r.bx, b.length ≤ 320 ∧ bOK b
def En.good (m : En) : Prop := ∀ n, m.oth n → (m.rw n).good
def Pk.good (p : Pk) : Prop := p.hs.length ≤ 1000 ∧ p.bs.length ≤ 1000000 ∧ bOK p.bs
structure An.good (a : An) : Prop where
  p : a.ps.length ≤ 1000
  h : ∀ p ∈ a.ps, p.good
  b : a.bs.length ≤ 1000
  t : ∀ x ∈ a.bs, x.2.length ≤ 1000000 ∧ bOK x.2
  f : a.fl.length ≤ 1000
theorem An.good.small {a : An} (h : a.good) : a.small := ⟨by have := h.p; omega, fun p hp => by have := h.h p hp; exact ⟨by have := this.1; omega, this.2.1⟩, by have := h.b; omega, fun x hx => (h.t x hx).1⟩
theorem an0_good : an0.good := ⟨by simp, by simp, by simp, by simp, by simp⟩
theorem En.good.put {m : En} (h : m.good) {n : Int} {r : Rw} (hr : m.oth n → r.good) : (m.put n r).good := fun k hk => by
  show (if k = n then r else m.rw k).good
  split
  · rename_i e; subst e; exact hr hk
  · exact h k hk
theorem due1_good {m : En} {n : Int} {r : Rw} {above : Int} {k : Nat} (h : r.good) : (m.due1 n r above k).length ≤ 1 ∧ ∀ p ∈ m.due1 n r above k, p.good := by
  unfold En.due1
  split
  · refine ⟨by simp, fun p hp => ?_⟩
    rw [List.mem_singleton] at hp
    subst hp
    have key : (r.bx.getD k []).length ≤ 320 ∧ bOK (r.bx.getD k []) := by
      by_cases hk : k < r.bx.length
      · have e : r.bx.getD k [] = r.bx[k] := by simp [List.getD, hk]
        rw [e]
        exact h _ (List.getElem_mem hk)
      · have e : r.bx.getD k [] = [] := by
          rw [List.getD_eq_getElem?_getD, List.getElem?_eq_none (by omega)]
          rfl
        rw [e]
        exact ⟨by simp, fun b hb => by cases hb⟩
    exact ⟨by simp [En.data], by show (r.bx.getD k []).length ≤ 1000000; have := key.1; omega, key.2⟩
  · exact ⟨by simp, by simp⟩
theorem dueK_good {m : En} {n : Int} {r : Rw} {above : Int} (h : r.good) : ∀ k, (m.dueK n r above k).length ≤ k ∧ ∀ p ∈ m.dueK n r above k, p.good
  | 0 => ⟨by simp [En.dueK], by simp [En.dueK]⟩
  | k + 1 => by
    obtain ⟨h1, h2⟩ := dueK_good (m := m) (n := n) (above := above) h k
    have e : m.dueK n r above (k + 1) = m.dueK n r above k ++ m.due1 n r above k := by
      unfold En.dueK
      rw [List.range_succ, List.flatMap_append]
      simp
    rw [e]
    obtain ⟨g1, g2⟩ := due1_good (m := m) (n := n) (above := above) (k := k) h
    refine ⟨by rw [List.length_append]; omega, fun p hp => ?_⟩
    rcases List.mem_append.1 hp with hp | hp
    · exact h2 p hp
    · exact g2 p hp
theorem due_good {m : En} {n : Int} {r : Rw} {above : Int} (h : r.good) : (m.due n r above).length ≤ 8 ∧ ∀ p ∈ m.due n r above, p.good := by
  obtain ⟨h1, h2⟩ := dueK_good (m := m) (n := n) (above := above) h r.due
  have : r.due ≤ 8 := by unfold Rw.due; omega
  exact ⟨Nat.le_trans h1 this, h2⟩
/-! ### Reliable -/
theorem reliable_good {m : En} (h : m.good) (l : List Int) : (m.reliable l).good := fun n hn => by
  have := h n hn
  show ((m.rw n).rel (decide (n ∈ l))).good
  unfold Rw.rel
  intro b hb
  simp only at hb
  split at hb
  · simp [Rw.anew] at hb
  · exact this b hb
/-! ### Send -/
theorem send1_good {now : Int} {body dsts : List Int} {s : Snd} {n : Int} (hb : body.length ≤ 320 ∧ bOK body) (h : s.m.good) : (send1 now body dsts s n).m.good := by
  unfold send1
  split
  · split
    · exact h
    · refine h.put (fun hn b hm => ?_)
      unfold Rw.push at hm
      simp only at hm
      rcases List.mem_append.1 hm with hm | hm
      · exact h n hn b hm
      · rw [List.mem_singleton] at hm; subst hm; exact hb
  · exact h
theorem sends_good {m : En} {now : Int} {body dsts : List Int} (hb : body.length ≤ 320 ∧ bOK body) (h : m.good) : ∀ k, k ≤ 10 → (m.sends now body dsts k).m.good
  | 0, _ => h
  | k + 1, hk => by
    rw [sends_succ _ _ _ _ (by omega)]
    exact send1_good hb (sends_good hb h k (by omega))
theorem send_good {m : En} (h : m.good) (now : Int) (body dsts : List Int) (hb : bOK body) : (m.send now body dsts).1.good ∧ (m.send now body dsts).2.1.good := by
  unfold En.send
  split
  · rename_i he
    have hl : body.length ≤ 320 := by
      unfold En.sendE at he
      split at he
      · cases he
      · omega
    have hn := sends_n m now body dsts 10 (by omega)
    refine ⟨sends_good ⟨hl, hb⟩ h 10 (by omega), ?_⟩
    simp only
    unfold En.sendA
    refine ⟨?_, ?_, by simp, by simp, by simp only; omega⟩
    · simp only; split <;> simp
    · intro p hp
      simp only at hp
      split at hp
      · cases hp
      · rw [List.mem_singleton] at hp
        subst hp
        exact ⟨by show (m.sends now body dsts 10).hs.length ≤ 1000; omega, by show body.length ≤ 1000000; omega, hb⟩
  · exact ⟨h, an0_good⟩
/-! ### Tick -/
theorem ticks_good (now : Int) : ∀ (l : List Int) (s : Tck) (k : Nat), s.m.good → (∀ n ∈ l, s.m.oth n) → s.ps.length ≤ k → (∀ p ∈ s.ps, p.good) → (l.foldl (tick1 now) s).m.good ∧ (l.foldl (tick1 now) s).ps.length ≤ k + 8 * l.length ∧ ∀ p ∈ (l.foldl (tick1 now) s).ps, p.good
  | [], s, k, h, _, hk, hp => ⟨h, by simpa using hk, hp⟩
  | n :: l, s, k, h, ho, hk, hp => by
    have key : (tick1 now s n).m.good ∧ (tick1 now s n).m.n = s.m.n ∧ (tick1 now s n).ps.length ≤ k + 8 ∧ ∀ p ∈ (tick1 now s n).ps, p.good := by
      have hr := h n (ho n (List.mem_cons_self ..))
      unfold tick1
      split
      · obtain ⟨g1, g2⟩ := due_good (m := s.m) (n := n) (above := 0) hr
        refine ⟨h.put (fun _ => hr), rfl, by simp only [List.length_append]; omega, fun p hp' => ?_⟩
        rcases List.mem_append.1 hp' with h1 | h1
        · exact hp p h1
        · exact g2 p h1
      · exact ⟨h, rfl, by omega, hp⟩
    obtain ⟨k1, k2, k3, k4⟩ := key
    obtain ⟨g1, g2, g3⟩ := ticks_good now l (tick1 now s n) (k + 8) k1 (fun j hj => by
      have := ho j (List.mem_cons_of_mem _ hj)
      unfold En.oth at this ⊢
      rw [k2]; exact this) k3 k4
    exact ⟨g1, by rw [List.length_cons]; simp only [List.foldl_cons]; omega, g3⟩
theorem tick_good {m : En} (h : m.good) (now : Int) : (m.tick now).1.good ∧ (m.tick now).2.good := by
  have hn : ∀ n ∈ m.nodes, m.oth n := fun n hn => (isR_iff.1 (List.mem_filter.1 hn).2).1
  have hl : m.nodes.length ≤ 10 := by
    unfold En.nodes
    refine Nat.le_trans (List.length_filter_le _ _) ?_
    simp [tens]
  obtain ⟨g1, g2, g3⟩ := ticks_good now m.nodes ⟨m, []⟩ 0 h hn (by simp) (by simp)
  exact ⟨g1, ⟨by show (m.nodes.foldl (tick1 now) ⟨m, []⟩).ps.length ≤ 1000; omega, g3, by simp [En.tick], by simp [En.tick], by simp [En.tick]⟩⟩
/-! ### Take -/
theorem takeData_good {m : En} (h : m.good) (n i : Int) (d : Hd) (bs : List Int) (hb : bs.length ≤ 1000000 ∧ bOK bs) : (m.takeData n i d bs).1.good ∧ (m.takeData n i d bs).2.good := by
  have key : ∀ (c : Cm) (nx : Bool) (cm : Int → Option Cm), ({ m with cm := cm } : En).good ∧ (⟨[⟨3, m.n, m.i, 8, [⟨n, c.c, c.g, i⟩], [], 0, 0, 0, []⟩], if nx = true then [((n, i), bs)] else [], []⟩ : An).good := fun c nx cm => by
    refine ⟨h, by simp, ?_, ?_, ?_, by simp⟩
    · intro p hp
      rw [List.mem_singleton] at hp
      subst hp
      exact ⟨by simp, by simp, fun b hb => by cases hb⟩
    · simp only; split <;> simp
    · intro x hx
      simp only at hx
      split at hx
      · rw [List.mem_singleton] at hx; subst hx; exact hb
      · cases hx
  unfold En.takeData
  cases hc : m.cm n with
  | none => simp only [Bool.false_eq_true, if_false]; exact key _ _ _
  | some c0 =>
    simp only
    by_cases ho : (decide (i < c0.i) || decide (i = c0.i) && decide (d.c < c0.c)) = true
    · rw [if_pos ho]; exact ⟨h, an0_good⟩
    · rw [if_neg ho]; exact key _ _ _
theorem takeAck_good {m : En} (h : m.good) (now n i : Int) (d : Hd) : (m.takeAck now n i d).1.good ∧ (m.takeAck now n i d).2.good := by
  unfold En.takeAck
  split
  · exact ⟨h, an0_good⟩
  rename_i h0
  have ho : m.oth n := by
    have : m.isR n = true := by
      cases hh : m.isR n with
      | true => rfl
      | false => exact absurd (.inr (.inl hh)) h0
    exact (isR_iff.1 this).1
  have hr := h n ho
  split
  · exact ⟨h.put (fun _ => fun b hb => by simp [Rw.anew] at hb), an0_good⟩
  · simp only
    split
    · exact ⟨h.put (fun _ => hr), an0_good⟩
    · rename_i r' hr'
      have hg : r'.good := by
        unfold Rw.acked at hr'
        split at hr'
        · cases hr'
        · injection hr' with hr'
          subst hr'
          exact fun b hb => hr b (List.mem_of_mem_drop hb)
      obtain ⟨g1, g2⟩ := due_good (m := m) (n := n) (above := (m.rw n).ba + (Rw.due { m.rw n with ak := i } : Nat)) hg
      exact ⟨h.put (fun _ => hg), ⟨by simp only; exact Nat.le_trans g1 (by omega), g2, by simp, by simp, by simp⟩⟩
theorem take_good {m : En} (h : m.good) (now : Int) (p : Pk) (hb : p.bs.length ≤ 1000000 ∧ bOK p.bs) : (m.take now p).1.good ∧ (m.take now p).2.good := by
  unfold En.take
  split
  · split
    · split
      · exact takeData_good h _ _ _ _ hb
      · exact takeAck_good h _ _ _ _
    · exact ⟨h, an0_good⟩
  · exact ⟨h, an0_good⟩
theorem new_good (n i : Int) : (En.new n i).good := fun k _ b hb => by cases hb
end Go.Proofs.YtniogmefbjfoaaaGreat

namespace Go.Proofs.YtniogmefbjfoaaaGreat
set_option linter.unusedSimpArgs false
set_option linter.unusedVariables false
set_option linter.unusedSectionVars false
open Go.RowKit Go.Maps

/-- a packet of an answer, read -/
structure PmR (W : World) (p : Pm) : Prop where
  h : Reads W W.heap.size 4 p.HA p.x.hs.length (hcs p.x.hs)
  b : Reads W W.heap.size 1 p.BA p.x.bs.length (bcs p.x.bs)
  ps : p.x.ps = []
set_option maxRecDepth 100000 in
set_option maxHeartbeats 8000000 in
theorem same_a (w : World) (A1 : Option Addr) (c1 : Nat) (ps : List Pm) (A2 : Option Addr) (c2 : Nat) (cs : List Cb) (A3 : Option Addr) (c3 : Nat) (fl : List Int) (A1' : Option Addr) (c1' : Nat) (ps' : List Pm) (A2' : Option Addr) (c2' : Nat) (cs' : List Cb) (A3' : Option Addr) (c3' : Nat)
    (hP : Reads w w.heap.size 10 A1 ps.length (pms ps)) (hC : Reads w w.heap.size 3 A2 cs.length (cbs cs)) (hF : Reads w w.heap.size 1 A3 fl.length (ics fl)) (hP' : Reads w w.heap.size 10 A1' ps.length (pms ps')) (hC' : Reads w w.heap.size 3 A2' cs.length (cbs cs')) (hF' : Reads w w.heap.size 1 A3' fl.length (ics fl))
    (ep : ps.map Pm.x = ps'.map Pm.x) (ec : cs.map Cb.pl = cs'.map Cb.pl) (hp : ∀ p ∈ ps, PmR w p) (hp' : ∀ p ∈ ps', PmR w p) (hc : ∀ x ∈ cs, Reads w w.heap.size 1 x.b.A x.b.bs.length (bcs x.b.bs)) (hc' : ∀ x ∈ cs', Reads w w.heap.size 1 x.b.A x.b.bs.length (bcs x.b.bs)) (hg : ∀ p ∈ ps, p.x.good) (l1 : ps.length ≤ 1000) (l2 : cs.length ≤ 1000) (l3 : fl.length ≤ 1000) :
    Calls Tryz.prog 30 #[.agg #[.slice A1 ps.length c1, .slice A2 cs.length c2, .slice A3 fl.length c3], .agg #[.slice A1' ps.length c1', .slice A2' cs.length c2', .slice A3' fl.length c3']] w (RetB w true) := by
  have HP := hide hP
  have HC := hide hC
  have HF := hide hF
  have HP2 := hide hP'
  have HC2 := hide hC'
  have HF2 := hide hF'
  have HPP := hide hp
  have HPP2 := hide hp'
  have HCC := hide hc
  have HCC2 := hide hc'
  have HG := hide hg
  have EP := hide ep
  have EC := hide ec
  clear hP hC hF hP' hC' hF' hp hp' hc hc' hg ep ec
  go_enter Tryz.func30, Tryz.ntmps30
  go_wp2_with fail
  go_loopw [5] (fun v wr => ∃ j : Nat, j ≤ ps.length ∧ v = .int .i64 j ∧ Below w.heap.size w wr ∧ BoxAt wr w.heap.size #[.slice A1 ps.length c1, .slice A2 cs.length c2, .slice A3 fl.length c3] 52 ∧ BoxAt wr (w.heap.size + 1) #[.slice A1' ps.length c1', .slice A2' cs.length c2', .slice A3' fl.length c3'] 52) (fun v _ => ps.length - (intOf v).toNat)
  case atStart => exact ⟨0, Nat.zero_le _, rfl, blw, inferInstance, inferInstance⟩
  case round =>
    obtain ⟨j, hj, rfl, hB, hbx, hbx2⟩ := hrel
    haveI := hbx
    haveI := hbx2
    haveI : Blw w wr := ⟨hB⟩
    have HB := hide hB
    clear hB hbx hbx2
    by_cases hlt : j < ps.length
    · obtain ⟨b, off, hA, hb, hcl⟩ := ((HP.out.below HB.out).more HB.out.size).2 (by omega)
      obtain ⟨b', off', hA', hb', hcl'⟩ := ((HP2.out.below HB.out).more HB.out.size).2 (by omega)
      subst hA hA'
      obtain ⟨p, hpj⟩ : ∃ p, ps[j]? = some p := ⟨_, List.getElem?_eq_getElem hlt⟩
      obtain ⟨p', hpj', hx⟩ : ∃ p', ps'[j]? = some p' ∧ p.x = p'.x := by
        have e := congrArg (fun l => l[j]?) EP.out
        simp only [List.getElem?_map, hpj, Option.map_some] at e
        cases hq : ps'[j]? with
        | none => rw [hq] at e; simp at e
        | some p' => rw [hq] at e; simp at e; exact ⟨p', rfl, e⟩
      have r1 := HPP.out p (List.mem_of_getElem? hpj)
      have r2 := HPP2.out p' (List.mem_of_getElem? hpj')
      have hgo := HG.out p (List.mem_of_getElem? hpj)
      have hcell : ∀ q u, q < 10 → (pmc p)[q]? = some u → wr.cell? ⟨b, off + j * 10 + q, none⟩ = some u := fun q u hq hu => by
        have := hcl (j * 10 + q) u (by rw [pms, flat_get pmc_len ps j q p hpj hq]; exact hu)
        rw [Nat.add_assoc]; exact this
      have hcell' : ∀ q u, q < 10 → (pmc p')[q]? = some u → wr.cell? ⟨b', off' + j * 10 + q, none⟩ = some u := fun q u hq hu => by
        have := hcl' (j * 10 + q) u (by rw [pms, flat_get pmc_len ps' j q p' hpj' hq]; exact hu)
        rw [Nat.add_assoc]; exact this
      clear hpj hpj' hcl hcl'
      obtain ⟨⟨k, n, i, hop, hs, bs, an, ai, sq, pps⟩, HA, hcp, BA, bcp⟩ := p
      obtain ⟨x', HA', hcp', BA', bcp'⟩ := p'
      simp only at hx
      subst hx
      obtain ⟨r1h, r1b, r1p⟩ := r1
      obtain ⟨r2h, r2b, r2p⟩ := r2
      simp only at r1h r1b r1p r2h r2b
      subst r1p
      obtain ⟨g1, g2, g3⟩ := hgo
      simp only at g1 g2 g3
      have TS : Hid (∀ W, Below w.heap.size w W → Calls Tryz.prog 27 #[PkV k n i hop HA hs.length hcp BA bs.length bcp an ai sq none 0 0, PkV k n i hop HA' hs.length hcp' BA' bs.length bcp' an ai sq none 0 0] W (RetB W true)) := hide (fun W hW => ksameP_s ⟨k, n, i, hop, hs, bs, an, ai, sq, []⟩ ⟨k, n, i, hop, hs, bs, an, ai, sq, []⟩ HA hcp BA bcp none 0 HA' hcp' BA' bcp' none 0 W (PkIn.stp (a := w) ⟨r1h, r1b, Reads.none_, by simp only; omega, g2, by simp⟩ hW) (PkIn.stp (a := w) ⟨r2h, r2b, Reads.none_, by simp only; omega, g2, by simp⟩ hW) g3 g3 true (by simp))
      haveI : CellAt wr b (off + j * 10) (.int .i64 k) := ⟨hb, by have := hcell 0 _ (by omega) rfl; exact this⟩
      haveI : CellAt wr b (off + j * 10 + 1) (.int .i64 n) := ⟨hb, hcell 1 _ (by omega) rfl⟩
      haveI : CellAt wr b (off + j * 10 + 2) (.int .u64 i) := ⟨hb, hcell 2 _ (by omega) rfl⟩
      haveI : CellAt wr b (off + j * 10 + 3) (.int .i64 hop) := ⟨hb, hcell 3 _ (by omega) rfl⟩
      haveI : CellAt wr b (off + j * 10 + 4) (.slice HA hs.length hcp) := ⟨hb, hcell 4 _ (by omega) rfl⟩
      haveI : CellAt wr b (off + j * 10 + 5) (.slice BA bs.length bcp) := ⟨hb, hcell 5 _ (by omega) rfl⟩
      haveI : CellAt wr b (off + j * 10 + 6) (.int .i64 an) := ⟨hb, hcell 6 _ (by omega) rfl⟩
      haveI : CellAt wr b (off + j * 10 + 7) (.int .u64 ai) := ⟨hb, hcell 7 _ (by omega) rfl⟩
      haveI : CellAt wr b (off + j * 10 + 8) (.int .u64 sq) := ⟨hb, hcell 8 _ (by omega) rfl⟩
      haveI : CellAt wr b (off + j * 10 + 9) (.slice none 0 0) := ⟨hb, hcell 9 _ (by omega) rfl⟩
      haveI : CellAt wr b' (off' + j * 10) (.int .i64 k) := ⟨hb', by have := hcell' 0 _ (by omega) rfl; exact this⟩
      haveI : CellAt wr b' (off' + j * 10 + 1) (.int .i64 n) := ⟨hb', hcell' 1 _ (by omega) rfl⟩
      haveI : CellAt wr b' (off' + j * 10 + 2) (.int .u64 i) := ⟨hb', hcell' 2 _ (by omega) rfl⟩
      haveI : CellAt wr b' (off' + j * 10 + 3) (.int .i64 hop) := ⟨hb', hcell' 3 _ (by omega) rfl⟩
      haveI : CellAt wr b' (off' + j * 10 + 4) (.slice HA' hs.length hcp') := ⟨hb', hcell' 4 _ (by omega) rfl⟩
      haveI : CellAt wr b' (off' + j * 10 + 5) (.slice BA' bs.length bcp') := ⟨hb', hcell' 5 _ (by omega) rfl⟩
      haveI : CellAt wr b' (off' + j * 10 + 6) (.int .i64 an) := ⟨hb', hcell' 6 _ (by omega) rfl⟩
      haveI : CellAt wr b' (off' + j * 10 + 7) (.int .u64 ai) := ⟨hb', hcell' 7 _ (by omega) rfl⟩
      haveI : CellAt wr b' (off' + j * 10 + 8) (.int .u64 sq) := ⟨hb', hcell' 8 _ (by omega) rfl⟩
      haveI : CellAt wr b' (off' + j * 10 + 9) (.slice none 0 0) := ⟨hb', hcell' 9 _ (by omega) rfl⟩
      have i0 : (0 : Int) ≤ (j : Int) := by omega
      have i1 : (j : Int) < (ps.length : Int) := by omega
      clear hcell hcell' r1h r1b r2h r2b r2p g1 g2 g3 hb hb'
      go_upto_region 6 with fail
      go_region_held3 (fun w' => w'.cell? ⟨w.heap.size, 0, none⟩ = some (.slice (some ⟨b, off, none⟩) ps.length c1) ∧ w'.cell? ⟨w.heap.size + 1, 0, none⟩ = some (.slice (some ⟨b', off', none⟩) ps.length c1') ∧ w'.cell? ⟨b, off + j * 10, none⟩ = some (.int .i64 k) ∧ w'.cell? ⟨b, off + j * 10 + 1, none⟩ = some (.int .i64 n) ∧ w'.cell? ⟨b, off + j * 10 + 2, none⟩ = some (.int .u64 i) ∧ w'.cell? ⟨b, off + j * 10 + 3, none⟩ = some (.int .i64 hop) ∧ w'.cell? ⟨b, off + j * 10 + 4, none⟩ = some (.slice HA hs.length hcp) ∧ w'.cell? ⟨b, off + j * 10 + 5, none⟩ = some (.slice BA bs.length bcp) ∧ w'.cell? ⟨b, off + j * 10 + 6, none⟩ = some (.int .i64 an) ∧ w'.cell? ⟨b, off + j * 10 + 7, none⟩ = some (.int .u64 ai) ∧ w'.cell? ⟨b, off + j * 10 + 8, none⟩ = some (.int .u64 sq) ∧ w'.cell? ⟨b, off + j * 10 + 9, none⟩ = some (.slice none 0 0) ∧ w'.cell? ⟨b', off' + j * 10, none⟩ = some (.int .i64 k) ∧ w'.cell? ⟨b', off' + j * 10 + 1, none⟩ = some (.int .i64 n) ∧ w'.cell? ⟨b', off' + j * 10 + 2, none⟩ = some (.int .u64 i) ∧ w'.cell? ⟨b', off' + j * 10 + 3, none⟩ = some (.int .i64 hop) ∧ w'.cell? ⟨b', off' + j * 10 + 4, none⟩ = some (.slice HA' hs.length hcp') ∧ w'.cell? ⟨b', off' + j * 10 + 5, none⟩ = some (.slice BA' bs.length bcp') ∧ w'.cell? ⟨b', off' + j * 10 + 6, none⟩ = some (.int .i64 an) ∧ w'.cell? ⟨b', off' + j * 10 + 7, none⟩ = some (.int .u64 ai) ∧ w'.cell? ⟨b', off' + j * 10 + 8, none⟩ = some (.int .u64 sq) ∧ w'.cell? ⟨b', off' + j * 10 + 9, none⟩ = some (.slice none 0 0)) ((refine ⟨?_, ?_, ?_, ?_, ?_, ?_, ?_, ?_, ?_, ?_, ?_, ?_, ?_, ?_, ?_, ?_, ?_, ?_, ?_, ?_, ?_, ?_⟩ <;> (first | (rw [cell?_box]; rfl) | exact CellAt.h))) (first | (go_at_call 27; (with_reducible refine (TS.out _ (by exact blw)).mono ?_); rintro e w5 ⟨rfl, hb5⟩; haveI : Stp _ w5 := ⟨hb5⟩; clear hb5) | fail)
      all_goals
        go_wp2_with fail
        go_roundw
        case rel => exact ⟨j + 1, by omega, by go_num, blw, inferInstance, inferInstance⟩
        case measure => simp [intOf]; omega
    · have hje : j = ps.length := by omega
      subst hje
      go_wp2_with fail
      go_loopw [6] (fun v wr => ∃ j : Nat, j ≤ cs.length ∧ v = .int .i64 j ∧ Below w.heap.size w wr ∧ BoxAt wr w.heap.size #[.slice A1 ps.length c1, .slice A2 cs.length c2, .slice A3 fl.length c3] 52 ∧ BoxAt wr (w.heap.size + 1) #[.slice A1' ps.length c1', .slice A2' cs.length c2', .slice A3' fl.length c3'] 52) (fun v _ => cs.length - (intOf v).toNat)
      case atStart => exact ⟨0, Nat.zero_le _, rfl, blw, inferInstance, inferInstance⟩
      case round =>
        obtain ⟨j, hj, rfl, hB, hbx, hbx2⟩ := hrel
        haveI := hbx
        haveI := hbx2
        haveI : Blw w wr := ⟨hB⟩
        have HB := hide hB
        clear hB hbx hbx2
        by_cases hlt : j < cs.length
        · obtain ⟨b, off, hA, hb, hcl⟩ := ((HC.out.below HB.out).more HB.out.size).2 (by omega)
          obtain ⟨b', off', hA', hb', hcl'⟩ := ((HC2.out.below HB.out).more HB.out.size).2 (by omega)
          subst hA hA'
          obtain ⟨p, hpj⟩ : ∃ p, cs[j]? = some p := ⟨_, List.getElem?_eq_getElem hlt⟩
          obtain ⟨p', hpj', hx⟩ : ∃ p', cs'[j]? = some p' ∧ p.pl = p'.pl := by
            have e := congrArg (fun l => l[j]?) EC.out
            simp only [List.getElem?_map, hpj, Option.map_some] at e
            cases hq : cs'[j]? with
            | none => rw [hq] at e; simp at e
            | some p' => rw [hq] at e; simp at e; exact ⟨p', rfl, e⟩
          have r1 := HCC.out p (List.mem_of_getElem? hpj)
          have r2 := HCC2.out p' (List.mem_of_getElem? hpj')
          have hcell : ∀ q u, q < 3 → (cbc p)[q]? = some u → wr.cell? ⟨b, off + j * 3 + q, none⟩ = some u := fun q u hq hu => by
            have := hcl (j * 3 + q) u (by rw [cbs, flat_get cbc_len cs j q p hpj hq]; exact hu)
            rw [Nat.add_assoc]; exact this
          have hcell' : ∀ q u, q < 3 → (cbc p')[q]? = some u → wr.cell? ⟨b', off' + j * 3 + q, none⟩ = some u := fun q u hq hu => by
            have := hcl' (j * 3 + q) u (by rw [cbs, flat_get cbc_len cs' j q p' hpj' hq]; exact hu)
            rw [Nat.add_assoc]; exact this
          clear hpj hpj' hcl hcl'
          obtain ⟨n, i, ⟨BA, bcp, bs⟩⟩ := p
          obtain ⟨n', i', ⟨BA', bcp', bs'⟩⟩ := p'
          unfold Cb.pl at hx
          simp only [Prod.mk.injEq] at hx
          obtain ⟨⟨rfl, rfl⟩, rfl⟩ := hx
          simp only at r1 r2
          haveI : RdY wr BA bs.length bs := ⟨(r1.below HB.out).more HB.out.size⟩
          haveI : RdY wr BA' bs.length bs := ⟨(r2.below HB.out).more HB.out.size⟩
          haveI : CellAt wr b (off + j * 3) (.int .i64 n) := ⟨hb, by have := hcell 0 _ (by omega) rfl; exact this⟩
          haveI : CellAt wr b (off + j * 3 + 1) (.int .u64 i) := ⟨hb, hcell 1 _ (by omega) rfl⟩
          haveI : CellAt wr b (off + j * 3 + 2) (.slice BA bs.length bcp) := ⟨hb, hcell 2 _ (by omega) rfl⟩
          haveI : CellAt wr b' (off' + j * 3) (.int .i64 n) := ⟨hb', by have := hcell' 0 _ (by omega) rfl; exact this⟩
          haveI : CellAt wr b' (off' + j * 3 + 1) (.int .u64 i) := ⟨hb', hcell' 1 _ (by omega) rfl⟩
          haveI : CellAt wr b' (off' + j * 3 + 2) (.slice BA' bs.length bcp') := ⟨hb', hcell' 2 _ (by omega) rfl⟩
          have i0 : (0 : Int) ≤ (j : Int) := by omega
          have i1 : (j : Int) < (cs.length : Int) := by omega
          have f2 : eqP n i n i = true := by simp [eqP]
          clear hcell hcell' r1 r2 hb hb'
          go_upto_region 11 with fail
          go_region_held (fun w' => w'.cell? ⟨w.heap.size, 1, none⟩ = some (.slice (some ⟨b, off, none⟩) cs.length c2) ∧ w'.cell? ⟨w.heap.size + 1, 1, none⟩ = some (.slice (some ⟨b', off', none⟩) cs.length c2') ∧ w'.cell? ⟨b, off + j * 3, none⟩ = some (.int .i64 n) ∧ w'.cell? ⟨b, off + j * 3 + 1, none⟩ = some (.int .u64 i) ∧ w'.cell? ⟨b, off + j * 3 + 2, none⟩ = some (.slice BA bs.length bcp) ∧ w'.cell? ⟨b', off' + j * 3, none⟩ = some (.int .i64 n) ∧ w'.cell? ⟨b', off' + j * 3 + 1, none⟩ = some (.int .u64 i) ∧ w'.cell? ⟨b', off' + j * 3 + 2, none⟩ = some (.slice BA' bs.length bcp')) ((refine ⟨?_, ?_, ?_, ?_, ?_, ?_, ?_, ?_⟩ <;> (first | (rw [cell?_box]; rfl) | exact CellAt.h))) (fail)
          all_goals
            go_wp2_with fail
            go_roundw
            case rel => exact ⟨j + 1, by omega, by go_num, blw, inferInstance, inferInstance⟩
            case measure => simp [intOf]; omega
        · have hje : j = cs.length := by omega
          subst hje
          go_wp2_with fail
          go_loopw [7] (fun v wr => ∃ j : Nat, j ≤ fl.length ∧ v = .int .i64 j ∧ Below w.heap.size w wr ∧ BoxAt wr w.heap.size #[.slice A1 ps.length c1, .slice A2 cs.length c2, .slice A3 fl.length c3] 52 ∧ BoxAt wr (w.heap.size + 1) #[.slice A1' ps.length c1', .slice A2' cs.length c2', .slice A3' fl.length c3'] 52) (fun v _ => fl.length - (intOf v).toNat)
          case atStart => exact ⟨0, Nat.zero_le _, rfl, blw, inferInstance, inferInstance⟩
          case round =>
            obtain ⟨j, hj, rfl, hB, hbx, hbx2⟩ := hrel
            haveI := hbx
            haveI := hbx2
            haveI : Blw w wr := ⟨hB⟩
            have HB := hide hB
            clear hB hbx hbx2
            by_cases hlt : j < fl.length
            · obtain ⟨b, off, v, hA, hb, hv, g1⟩ := Reads.atI ((HF.out.below HB.out).more HB.out.size) hlt
              obtain ⟨b', off', v', hA', hb', hv', g1'⟩ := Reads.atI ((HF2.out.below HB.out).more HB.out.size) hlt
              subst hA hA'
              obtain rfl : v = v' := by rw [hv] at hv'; injection hv'
              haveI : CellAt wr b (off + j) (.int .i64 v) := ⟨hb, g1⟩
              haveI : CellAt wr b' (off' + j) (.int .i64 v) := ⟨hb', g1'⟩
              have i0 : (0 : Int) ≤ (j : Int) := by omega
              have i1 : (j : Int) < (fl.length : Int) := by omega
              clear g1 g1' hv hv' hb hb'
              go_upto_region 16 with fail
              go_quiet (fail)
              go_wp2_with fail
              go_roundw
              case rel => exact ⟨j + 1, by omega, by go_num, blw, inferInstance, inferInstance⟩
              case measure => simp [intOf]; omega
            · have hje : j = fl.length := by omega
              subst hje
              go_wp2_with fail
              go_ret
              exact ⟨rfl, blw⟩
theorem same16_s (w : World) (b1 b2 : Nat) (v v' : Value) (a : An) (h : AnsM b1 w v a) (h' : AnsM b2 w v' a) (hg : a.good) : Calls Tryz.prog 30 #[v, v'] w (RetB w true) := by
  obtain ⟨pv, ps, bv, cs, fv, rfl, h2, h3, h4, h5, h6⟩ := h
  obtain ⟨pv', ps', bv', cs', fv', rfl, g2, g3, g4, g5, g6⟩ := h'
  obtain ⟨A1, c1, rfl, _⟩ := own_slice h2.row
  obtain ⟨A2, c2, rfl, _⟩ := own_slice h4.row
  obtain ⟨A3, c3, rfl, _⟩ := own_slice h6
  obtain ⟨A1', c1', rfl, _⟩ := own_slice g2.row
  obtain ⟨A2', c2', rfl, _⟩ := own_slice g4.row
  obtain ⟨A3', c3', rfl, _⟩ := own_slice g6
  have e1 : ps'.length = ps.length := by rw [← List.length_map (f := Pm.x), g3, ← h3, List.length_map]
  have e2 : cs'.length = cs.length := by rw [← List.length_map (f := Cb.pl), g5, ← h5, List.length_map]
  have l1 : ps.length ≤ 1000 := by rw [← List.length_map (f := Pm.x), h3]; exact hg.p
  have l2 : cs.length ≤ 1000 := by rw [← List.length_map (f := Cb.pl), h5]; exact hg.b
  have hP' := Reads.of_own g2.row
  have hC' := Reads.of_own g4.row
  rw [e1] at hP' ⊢
  rw [e2] at hC' ⊢
  exact same_a w A1 c1 ps A2 c2 cs A3 c3 a.fl A1' c1' ps' A2' c2' cs' A3' c3' (Reads.of_own h2.row) (Reads.of_own h4.row) (Reads.of_own h6) hP' hC' (Reads.of_own g6) (h3.trans g3.symm) (h5.trans g5.symm) (fun p hp => ⟨(h2.el p hp).h.1, (h2.el p hp).b.1, (h2.el p hp).ps⟩) (fun p hp => ⟨(g2.el p hp).h.1, (g2.el p hp).b.1, (g2.el p hp).ps⟩) (fun x hx => (h4.el x hx).r.1) (fun x hx => (g4.el x hx).r.1) (fun p hp => hg.h p.x (by rw [← h3]; exact List.mem_map_of_mem hp)) l1 l2 hg.f
end Go.Proofs.YtniogmefbjfoaaaGreat

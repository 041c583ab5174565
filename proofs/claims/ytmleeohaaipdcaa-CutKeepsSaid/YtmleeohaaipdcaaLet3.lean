/-
  Layer 21: rows of letters: how they lie; contracts: SameLetters, copied; Find of both.
-/
import Derived.Test.YtmleeohaaipdcaaLet2
import Derived.Test.YtmleeohaaipdcaaTcG
namespace Go.Proofs.Ytmleeohaaipdcaa
set_option linter.unusedSimpArgs false
set_option linter.unusedVariables false
set_option linter.unusedSectionVars false
open Go.RowKit

/-- a letter where it lies -/
structure Lr where
  x : Lc
  BA : Option Addr
  bc : Nat
  CA : Option Addr
  cc : Nat
  deriving Inhabited
def Lr.cl (y : Lr) : List Value := [.int .i64 y.x.k, .int .i64 y.x.p.1, .int .u64 y.x.p.2, .int .u64 y.x.r, .int .i64 y.x.s.1, .int .u64 y.x.s.2, .int .u64 y.x.n, .slice y.BA y.x.b.length y.bc, .int .u64 y.x.cid, .slice y.CA y.x.c.length y.cc, .bool y.x.w]
abbrev Lr.v (y : Lr) : Value := y.x.v y.BA y.bc y.CA y.cc
def lcs (l : List Lr) : List Value := l.flatMap Lr.cl
theorem lc_len (y : Lr) : y.cl.length = 11 := rfl
theorem lcs_len (l : List Lr) : (lcs l).length = l.length * 11 := flat_length lc_len l
theorem lcs_app (l m : List Lr) : lcs (l ++ m) = lcs l ++ lcs m := List.flatMap_append
theorem lc_one (l : List Lr) : ∀ u ∈ lcs l, u.oneCell' = true := by
  intro u hu
  obtain ⟨p, _, hp⟩ := List.mem_flatMap.1 hu
  simp [Lr.cl] at hp
  rcases hp with rfl | rfl | rfl | rfl | rfl | rfl | rfl | rfl | rfl | rfl | rfl <;> rfl
theorem Try.okLt : ElemOk Try.prog 22 31 11 120 := elemOk_of (.agg #[.int .i64 0, .int .i64 0, .int .u64 0, .int .u64 0, .int .i64 0, .int .u64 0, .int .u64 0, .slice none 0 0, .int .u64 0, .slice none 0 0, .bool false]) Try.underlying22 (by kernel_rfl) rfl (by omega)
/-- letters that can be read -/
structure LsR (W : World) (A : Option Addr) (l : List Lr) : Prop where
  r : Reads W W.heap.size 11 A l.length (lcs l)
  o : ∀ y ∈ l, y.x.Ok W y.BA y.CA
theorem LsR.step {a W : World} {A : Option Addr} {l : List Lr} (h : LsR a A l) (hb : Below a.heap.size a W) : LsR W A l := ⟨(h.r.below hb).more hb.size, fun y hy => (h.o y hy).step hb⟩
theorem LsR.tc {a W : World} {A : Option Addr} {l : List Lr} (h : LsR a A l) [b : Blw a W] : LsR W A l := h.step b.h
theorem LsR.at {W : World} {A : Option Addr} {l : List Lr} (h : LsR W A l) {k : Nat} (hk : k < l.length) :
    ∃ b off y, A = some ⟨b, off, none⟩ ∧ b < W.heap.size ∧ l[k]? = some y ∧ y.x.Ok W y.BA y.CA ∧ W.cell? ⟨b, off + k * 11, none⟩ = some (.int .i64 y.x.k) ∧ W.cell? ⟨b, off + k * 11 + 1, none⟩ = some (.int .i64 y.x.p.1) ∧ W.cell? ⟨b, off + k * 11 + 2, none⟩ = some (.int .u64 y.x.p.2) ∧ W.cell? ⟨b, off + k * 11 + 3, none⟩ = some (.int .u64 y.x.r) ∧ W.cell? ⟨b, off + k * 11 + 4, none⟩ = some (.int .i64 y.x.s.1) ∧ W.cell? ⟨b, off + k * 11 + 5, none⟩ = some (.int .u64 y.x.s.2) ∧ W.cell? ⟨b, off + k * 11 + 6, none⟩ = some (.int .u64 y.x.n) ∧ W.cell? ⟨b, off + k * 11 + 7, none⟩ = some (.slice y.BA y.x.b.length y.bc) ∧ W.cell? ⟨b, off + k * 11 + 8, none⟩ = some (.int .u64 y.x.cid) ∧ W.cell? ⟨b, off + k * 11 + 9, none⟩ = some (.slice y.CA y.x.c.length y.cc) ∧ W.cell? ⟨b, off + k * 11 + 10, none⟩ = some (.bool y.x.w) := by
  obtain ⟨b, off, rfl, hb, hc⟩ := h.r.2 (by omega)
  have hp : l[k]? = some l[k] := List.getElem?_eq_getElem hk
  have g : ∀ i v, i < 11 → (Lr.cl l[k])[i]? = some v → W.cell? ⟨b, off + (k * 11 + i), none⟩ = some v := fun i v hi hv => hc (k * 11 + i) v (by rw [lcs, flat_get lc_len l k i _ hp hi]; exact hv)
  refine ⟨b, off, l[k], rfl, hb, hp, h.o _ (List.getElem_mem hk), ?_, ?_, ?_, ?_, ?_, ?_, ?_, ?_, ?_, ?_, ?_⟩
  · exact g 0 _ (by omega) rfl
  · rw [Nat.add_assoc]; exact g 1 _ (by omega) rfl
  · rw [Nat.add_assoc]; exact g 2 _ (by omega) rfl
  · rw [Nat.add_assoc]; exact g 3 _ (by omega) rfl
  · rw [Nat.add_assoc]; exact g 4 _ (by omega) rfl
  · rw [Nat.add_assoc]; exact g 5 _ (by omega) rfl
  · rw [Nat.add_assoc]; exact g 6 _ (by omega) rfl
  · rw [Nat.add_assoc]; exact g 7 _ (by omega) rfl
  · rw [Nat.add_assoc]; exact g 8 _ (by omega) rfl
  · rw [Nat.add_assoc]; exact g 9 _ (by omega) rfl
  · rw [Nat.add_assoc]; exact g 10 _ (by omega) rfl
/-- small enough, and of what may stand in bytes -/
def Lc.Wf (x : Lc) : Prop := x.b.length ≤ 100000 ∧ x.c.length ≤ 100000 ∧ bOK x.b ∧ 0 ≤ x.p.2 ∧ 0 ≤ x.s.2
theorem Lc.Ok.wf {W : World} {x : Lc} {BA CA : Option Addr} (h : x.Ok W BA CA) : x.Wf := ⟨h.bl, h.cl, h.ok, h.pi, h.si⟩
/-- letters in memory of their own -/
structure LsO (W : World) (B : Nat) (v : Value) (l : List Lr) : Prop where
  o : W.ownsRow B 31 11 v l.length (lcs l)
  e : ∀ y ∈ l, OwnB W B (.slice y.BA y.x.b.length y.bc) y.x.b ∧ OwnU W B (.slice y.CA y.x.c.length y.cc) y.x.c
theorem LsO.step {a W : World} {B : Nat} {v : Value} {l : List Lr} (h : LsO a B v l) (hb : Below a.heap.size a W) : LsO W B v l := ⟨own_below h.o hb (Nat.le_refl _), fun y hy => ⟨own_below (h.e y hy).1 hb (Nat.le_refl _), own_below (h.e y hy).2 hb (Nat.le_refl _)⟩⟩
theorem LsO.tc {a W : World} {B : Nat} {v : Value} {l : List Lr} (h : LsO a B v l) [b : Blw a W] : LsO W B v l := h.step b.h
theorem LsO.nil (W : World) (B : Nat) : LsO W B (.slice none 0 0) [] := ⟨World.ownsRow_nil _ _ _ _, fun y hy => by cases hy⟩
theorem LsO.read {W : World} {B n c : Nat} {A : Option Addr} {l : List Lr} (h : LsO W B (.slice A n c) l) (hw : ∀ y ∈ l, y.x.Wf) : LsR W A l := by
  refine ⟨?_, fun y hy => ?_⟩
  · obtain ⟨A', c', e, _, _⟩ := own_slice h.o
    have ho := h.o
    injection e with e1 e2 e3
    subst e1 e2 e3
    exact Reads.of_own ho
  · obtain ⟨h1, h2, h3, h4, h5⟩ := hw y hy
    obtain ⟨k1, k2⟩ := h.e y hy
    exact ⟨Reads.of_own k1, Reads.of_own k2, h1, h2, h3, h4, h5⟩
theorem own_typesL {W : World} {B B' : Nat} {e e' : TypeId} {k k' n n' : Nat} {v v' : Value} {xs xs' : List Value} (h : W.ownsRow B e k v n xs) (h' : W.ownsRow B' e' k' v' n' xs') (he : e ≠ e') : ∀ g, v.ownBlock = some g → v'.ownBlock ≠ some g := by
  intro g hg hg'
  rcases h.2 with ⟨rfl, _⟩ | ⟨a, cap, cur, rfl, _, h1, _⟩
  · cases hg
  · rcases h'.2 with ⟨rfl, _⟩ | ⟨a', cap', cur', rfl, _, h2, _⟩
    · cases hg'
    · simp only [Value.ownBlock, Option.some.injEq] at hg hg'
      subst hg hg'
      rw [h1] at h2
      injection h2 with h2
      injection h2 with _ h3
      exact he h3
theorem own_otherL {w w' : World} {base : Nat} {e : TypeId} {k n : Nat} {v : Value} {xs : List Value} {row : Option Nat} (h : w.ownsRow base e k v n xs) (hg : w.grownBy w' row) (hne : ∀ g, v.ownBlock = some g → row ≠ some g) : w'.ownsRow base e k v n xs := by
  refine ⟨h.1, h.2.imp id ?_⟩
  rintro ⟨g, cap, cur, rfl, hbase, hg', h1⟩
  refine ⟨g, cap, cur, rfl, hbase, ?_, h1⟩
  rw [hg.block g (Array.getElem?_eq_some_iff.1 hg').1 (fun e => hne g rfl e.symm)]; exact hg'
theorem LsO.app {W W' : World} {B B' : Nat} {v v' : Value} {l : List Lr} {y : Lr} (h : LsO W B v l) (hb : OwnB W B' (.slice y.BA y.x.b.length y.bc) y.x.b) (hc : OwnU W B' (.slice y.CA y.x.c.length y.cc) y.x.c) (hB : B ≤ B')
    (ho : W'.ownsRow B 31 11 v' (l.length + 1) (lcs l ++ lcs [y])) (hg : W.grownBy W' v.ownBlock) : LsO W' B v' (l ++ [y]) := by
  refine ⟨by rw [List.length_append, List.length_singleton, lcs_app]; exact ho, fun z hz => ?_⟩
  rcases List.mem_append.1 hz with hz | hz
  · obtain ⟨k1, k2⟩ := h.e z hz
    exact ⟨own_otherL k1 hg (fun g hg' e => own_typesL k1 h.o (by decide) g hg' e), own_otherL k2 hg (fun g hg' e => own_typesL k2 h.o (by decide) g hg' e)⟩
  · simp at hz
    subst hz
    exact ⟨own_base (own_otherL hb hg (fun g hg' e => own_typesL hb h.o (by decide) g hg' e)) hB, own_base (own_otherL hc hg (fun g hg' e => own_typesL hc h.o (by decide) g hg' e)) hB⟩
/-- a row of letters comes back, in memory of its own -/
def RetLs (w : World) (L : List Lc) (e : Ending) (w' : World) : Prop := ∃ A c l, e = .returned (.slice A l.length c) ∧ l.map Lr.x = L ∧ LsO w' w.heap.size (.slice A l.length c) l ∧ Below w.heap.size w w'
theorem reads_lt1 (W : World) (m : Nat) (y : Lr) [h : BoxAt W m #[.int .i64 y.x.k, .int .i64 y.x.p.1, .int .u64 y.x.p.2, .int .u64 y.x.r, .int .i64 y.x.s.1, .int .u64 y.x.s.2, .int .u64 y.x.n, .slice y.BA y.x.b.length y.bc, .int .u64 y.x.cid, .slice y.CA y.x.c.length y.cc, .bool y.x.w] 31] : Reads W W.heap.size 11 (some ⟨m, 0, none⟩) 1 (lcs [y]) := by
  refine ⟨rfl, fun _ => ⟨_, _, rfl, h.lt, fun j u hu => ?_⟩⟩
  rw [Nat.zero_add, cell?_box]
  have e : lcs [y] = (#[.int .i64 y.x.k, .int .i64 y.x.p.1, .int .u64 y.x.p.2, .int .u64 y.x.r, .int .i64 y.x.s.1, .int .u64 y.x.s.2, .int .u64 y.x.n, .slice y.BA y.x.b.length y.bc, .int .u64 y.x.cid, .slice y.CA y.x.c.length y.cc, .bool y.x.w] : Array Value).toList := rfl
  rw [e] at hu
  simpa using hu
set_option maxRecDepth 100000 in
set_option maxHeartbeats 4000000 in
theorem copied_s (A : Option Addr) (c : Nat) (l : List Lr) (w : World) (h : LsR w A l) (hl : l.length ≤ 100000) :
    Calls Try.prog 10 #[.slice A l.length c] w (RetLs w (l.map Lr.x)) := by
  have HL := hide h
  clear h
  go_enter Try.func10, Try.ntmps10
  go_wp2_with fail
  go_loopw [4, 3] (fun j v wr => ∃ (m : Nat) (q : List Lr), m ≤ l.length ∧ j = .int .i64 m ∧ q.map Lr.x = (l.take m).map Lr.x ∧ LsO wr w.heap.size v q ∧ Below w.heap.size w wr) (fun j _ _ => l.length - (intOf j).toNat)
  case atStart => exact ⟨0, [], Nat.zero_le _, rfl, rfl, LsO.nil _ _, Below.refl _ _⟩
  case round =>
    obtain ⟨m, q, hm, rfl, hq, ho, hB⟩ := hrel
    haveI : Stp w wr := ⟨hB⟩
    have zr := hB.size
    haveI : LeN w.heap.size wr.heap.size := ⟨zr⟩
    have HQ := hide hq
    have HO := hide ho
    have hqle : q.length ≤ 100000 := by have := congrArg List.length hq; rw [List.length_map, List.length_map, List.length_take] at this; omega
    obtain ⟨A5, c5, rfl, _, _⟩ := own_slice ho.o
    clear hq ho hB
    by_cases hlt : m < l.length
    · obtain ⟨b, off, y, rfl, hb, hy, hok, g0, g1, g2, g3, g4, g5, g6, g7, g8, g9, g10⟩ := (HL.out.tc (W := wr)).at hlt
      haveI : InW b wr := ⟨hb⟩
      have HTK := hide (show (l.take (m + 1)).map Lr.x = (l.take m).map Lr.x ++ [y.x] by rw [take_succ_of hy]; simp)
      have T := hide (fun W (h : y.x.Ok W y.BA y.CA) => copy10_s y.x y.BA y.bc y.CA y.cc W h)
      have HOK := hide hok
      have i0 : (0 : Int) ≤ (m : Int) := by omega
      have i1 : (m : Int) < (l.length : Int) := by omega
      clear hy hok
      go_wp2_with fail
      (with_reducible refine (T.out _ HOK.out).mono ?_)
      rintro e w1 ⟨BA1, bc1, CA1, cc1, rfl, ho1, ho2, hb1⟩
      haveI : Stp _ w1 := ⟨hb1⟩
      have z1 := hb1.size
      obtain ⟨y1, hy1⟩ : ∃ y1 : Lr, y1 = ⟨y.x, BA1, bc1, CA1, cc1⟩ := ⟨_, rfl⟩
      have e1 : y1.x = y.x := by rw [hy1]
      have O1 : Hid (OwnB w1 wr.heap.size (.slice y1.BA y1.x.b.length y1.bc) y1.x.b) := hide (by rw [hy1]; exact ho1)
      have O2 : Hid (OwnU w1 wr.heap.size (.slice y1.CA y1.x.c.length y1.cc) y1.x.c) := hide (by rw [hy1]; exact ho2)
      have HE := hide e1
      rw [show y.x.v BA1 bc1 CA1 cc1 = Lr.v y1 by rw [hy1]]
      clear ho1 ho2 hb1 hy1 e1
      go_wp2_with (at_builtin; refine wpList_append_w Try.okLt rfl (.tmp 11) (.tmp 17) rfl w.heap.size (.slice A5 q.length c5) q.length (lcs q) 1 (lcs [y1]) ?_ ?_ ?_ ?_ ?_ ?_ ?_ ?_; go_must ((focus (first | rfl | (simp [Act.eval, Act.put]; done))); (focus (exact own_tc HO.out.o)); (focus (refine ⟨_, _, rfl, ?_⟩; exact reads_lt1 _ _ y1)); (focus (exact lc_one _)); (focus (unfold maxLen; omega)); (focus omega); (focus (first | omega | (simp; done) | (simp; omega) | exact BoxAt.lt (n := w.heap.size) inferInstance)); intro v7 w7 ho7 hg7; have HN := hide ((HO.out.tc (W := w1.alloc (.cells #[.int .i64 y1.x.k, .int .i64 y1.x.p.1, .int .u64 y1.x.p.2, .int .u64 y1.x.r, .int .i64 y1.x.s.1, .int .u64 y1.x.s.2, .int .u64 y1.x.n, .slice y1.BA y1.x.b.length y1.bc, .int .u64 y1.x.cid, .slice y1.CA y1.x.c.length y1.cc, .bool y1.x.w] 31))).app (own_tc O1.out) (own_tc O2.out) zr ho7 hg7); haveI : StpB w.heap.size _ w7 := ⟨grown_belowT hg7 (by simp; omega) (fun q hq => (HO.out.o.lt q hq).1)⟩; clear ho7 hg7))
      go_wp2
      go_roundw
      case rel => exact ⟨m + 1, q ++ [y1], by omega, by go_num, by rw [HTK.out, List.map_append, HQ.out, List.map_cons, List.map_nil, HE.out], HN.out, blw⟩
      case measure => simp [intOf]; omega
    · obtain rfl : m = l.length := by omega
      have HN := hide (show Below w.heap.size w wr from blw)
      have H2 := hide (show q.map Lr.x = l.map Lr.x by have := HQ.out; rwa [List.take_length] at this)
      go_wp2
      go_ret
      exact ⟨A5, c5, q, rfl, H2.out, HO.out, HN.out⟩
set_option maxRecDepth 100000 in
set_option maxHeartbeats 4000000 in
theorem sameLs_s (A A' : Option Addr) (c c' : Nat) (l m : List Lr) (w : World) (h : LsR w A l) (h' : LsR w A' m) (hl : l.length ≤ 100000) (hl' : m.length ≤ 100000) :
    Calls Try.prog 11 #[.slice A l.length c, .slice A' m.length c'] w (RetB w (decide (l.map Lr.x = m.map Lr.x))) := by
  have HL := hide h
  have HM := hide h'
  clear h h'
  cases f1 : ((l.length : Int) != (m.length : Int))
  · have hlen : l.length = m.length := by have := f1; simp at this; omega
    have HLEN := hide hlen
    clear hlen
    go_enter Try.func11, Try.ntmps11
    go_wp2
    go_loopw [5] (fun j wr => ∃ k : Nat, k ≤ l.length ∧ j = .int .i64 k ∧ Below w.heap.size w wr ∧ (l.take k).map Lr.x = (m.take k).map Lr.x) (fun j _ => l.length - (intOf j).toNat)
    case atStart => exact ⟨0, Nat.zero_le _, rfl, blw, rfl⟩
    case round =>
      obtain ⟨k, hk, rfl, hB, htk⟩ := hrel
      haveI : Stp w wr := ⟨hB⟩
      have HN := hide htk
      clear htk hB
      by_cases hlt : k < l.length
      · have hlt' : k < m.length := by have := HLEN.out; omega
        obtain ⟨b, off, y, rfl, hb, hy, hok, g0, g1, g2, g3, g4, g5, g6, g7, g8, g9, g10⟩ := (HL.out.tc (W := wr)).at hlt
        obtain ⟨b', off', z, rfl, hb', hz, hok', e0, e1, e2, e3, e4, e5, e6, e7, e8, e9, e10⟩ := (HM.out.tc (W := wr)).at hlt'
        haveI : InW b wr := ⟨hb⟩
        haveI : InW b' wr := ⟨hb'⟩
        have HY := hide hy
        have HZ := hide hz
        have T := hide (fun W (h : y.x.Ok W y.BA y.CA) (h' : z.x.Ok W z.BA z.CA) => same10_s y.x z.x y.BA y.bc y.CA y.cc z.BA z.bc z.CA z.cc W h h')
        have HO := hide hok
        have HO' := hide hok'
        have i0 : (0 : Int) ≤ (k : Int) := by omega
        have i1 : (k : Int) < (l.length : Int) := by omega
        have i2 : (k : Int) < (m.length : Int) := by omega
        clear hy hz hok hok'
        by_cases hyz : y.x = z.x
        · have H := hide (show (l.take (k + 1)).map Lr.x = (m.take (k + 1)).map Lr.x by rw [take_succ_of HY.out, take_succ_of HZ.out, List.map_append, List.map_append, HN.out]; simp [hyz])
          rw [decide_eq_true hyz] at T
          clear hyz
          go_wp2_with fail
          (refine wp_region_gw (by kernel_rfl) (by kernel_rfl) ?_; (repeat (go_big_quiet_step ((first | (go_at_call 17; with_reducible exact calls_gw (T.out _ HO.out.tc HO'.out.tc)) | fail)))); refine wpQuiet_nil ?_; intro _ hw'; obtain ⟨⟨dq, osq⟩, hw''⟩ := hw'; subst hw'')
          go_wp2
          go_roundw
          case rel => exact ⟨k + 1, by omega, by go_num, blw, H.out⟩
          case measure => simp [intOf]; omega
        · have H := hide (show ¬ l.map Lr.x = m.map Lr.x by
            intro h
            have e1 : (l.map Lr.x)[k]? = some y.x := by rw [List.getElem?_map, HY.out]; rfl
            have e2 : (m.map Lr.x)[k]? = some z.x := by rw [List.getElem?_map, HZ.out]; rfl
            rw [h, e2] at e1
            injection e1 with e1
            exact hyz e1.symm)
          rw [decide_eq_false hyz] at T
          clear hyz
          go_wp2_with fail
          (refine wp_region_gw (by kernel_rfl) (by kernel_rfl) ?_; (repeat (go_big_quiet_step ((first | (go_at_call 17; with_reducible exact calls_gw (T.out _ HO.out.tc HO'.out.tc)) | fail)))); refine wpQuiet_nil ?_; intro _ hw'; obtain ⟨⟨dq, osq⟩, hw''⟩ := hw'; subst hw'')
          go_wp2
          go_ret
          exact ⟨ret_b (by simp [H.out]), blw⟩
      · have H := hide (show l.map Lr.x = m.map Lr.x by
          have := HN.out; have h2 := HLEN.out
          rwa [List.take_of_length_le (by omega), List.take_of_length_le (by omega)] at this)
        go_wp2
        go_ret
        exact ⟨ret_b (by simp [H.out]), blw⟩
  · have H := hide (show ¬ l.map Lr.x = m.map Lr.x by intro h; have := congrArg List.length h; simp at this; rw [this] at f1; simp at f1)
    go_enter Try.func11, Try.ntmps11
    go_wp2
    go_ret
    exact ⟨ret_b (by simp [H.out]), blw⟩
end Go.Proofs.Ytmleeohaaipdcaa

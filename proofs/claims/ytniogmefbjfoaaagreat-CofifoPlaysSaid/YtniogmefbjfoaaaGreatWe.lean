/-
  Layer 16, plainly: what an end does.
-/
import Derived.Test.YtniogmefbjfoaaaGreatEn
import Derived.IntWalk
namespace Go.Proofs.YtniogmefbjfoaaaGreat
set_option linter.unusedSimpArgs false
set_option linter.unusedVariables false
set_option linter.unusedSectionVars false
open Go.RowKit

def En.put (m : En) (n : Int) (r : Rw) : En := { m with rw := fun k => if k = n then r else m.rw k }
def Rw.anew (r : Rw) : Rw := { r with cn := uadd r.cn, ba := 0, bx := [], ak := 0 }
def Rw.rel (r : Rw) (is : Bool) : Rw := { (if r.rl && !is then r.anew else r) with rl := is }
def En.reliable (m : En) (l : List Int) : En := { m with rw := fun n => (m.rw n).rel (decide (n ∈ l)) }
/-- the nodes from 1 to 10 -/
def tens : List Int := (List.range 10).map (fun k : Nat => (k : Int) + 1)
def En.isR (m : En) (n : Int) : Bool := decide (m.oth n) && (m.rw n).rl
def En.nodes (m : En) : List Int := tens.filter m.isR
def En.waits (m : En) (n : Int) : Int := if m.oth n then ((m.rw n).bx.length : Int) else 0
def En.data (m : En) (body : List Int) (hs : List Hd) : Pk := ⟨2, m.n, m.i, 8, hs, body, 0, 0, 0, []⟩
/-- an answer -/
structure An where
  ps : List Pk
  bs : List ((Int × Int) × List Int)
  fl : List Int
  deriving Inhabited
abbrev an0 : An := ⟨[], [], []⟩
/-! ### Send -/
structure Snd where
  m : En
  fl : List Int
  hs : List Hd
def Rw.full (r : Rw) : Bool := decide (48 ≤ r.bx.length) || decide (34359738367 ≤ r.ba + r.bx.length)
def Rw.push (r : Rw) (now : Int) (body : List Int) : Rw := { r with bx := r.bx ++ [body], st := if r.bx.length = 0 then now else r.st }
def send1 (now : Int) (body : List Int) (dsts : List Int) (s : Snd) (n : Int) : Snd :=
  if n ∈ dsts then
    if (s.m.rw n).full then { s with fl := s.fl ++ [n] }
    else ⟨s.m.put n ((s.m.rw n).push now body), s.fl, if (s.m.rw n).bx.length + 1 ≤ 8 then s.hs ++ [⟨n, (s.m.rw n).cn, (s.m.rw n).ba + ((s.m.rw n).bx.length + 1 : Nat), 0⟩] else s.hs⟩
  else s
def En.sends (m : En) (now : Int) (body : List Int) (dsts : List Int) (k : Nat) : Snd := (tens.take k).foldl (send1 now body dsts) ⟨m, [], []⟩
/-- what is wrong with a call of Send -/
def En.sendE (m : En) (body : List Int) (dsts : List Int) : Int :=
  if body.length = 0 ∨ 320 < body.length then 2 else if dsts = [] ∨ ¬ (∀ n ∈ dsts, m.isR n = true) then 5 else 0
def En.sendA (m : En) (body : List Int) (s : Snd) : An := ⟨if s.hs = [] then [] else [m.data body s.hs], [], s.fl⟩
def En.send (m : En) (now : Int) (body : List Int) (dsts : List Int) : En × An × Int :=
  if m.sendE body dsts = 0 then ((m.sends now body dsts 10).m, m.sendA body (m.sends now body dsts 10), 0) else (m, an0, m.sendE body dsts)
/-! ### what is due -/
def Rw.due (r : Rw) : Nat := min r.bx.length 8
def En.due1 (m : En) (n : Int) (r : Rw) (above : Int) (k : Nat) : List Pk := if above < r.ba + 1 + k then [m.data (r.bx.getD k []) [⟨n, r.cn, r.ba + 1 + k, 0⟩]] else []
def En.dueK (m : En) (n : Int) (r : Rw) (above : Int) (k : Nat) : List Pk := (List.range k).flatMap (m.due1 n r above)
def En.due (m : En) (n : Int) (r : Rw) (above : Int) : List Pk := m.dueK n r above r.due
def Rw.stK (r : Rw) (now above : Int) (k : Nat) : Rw := { r with st := if (List.range k).any (fun j => decide (above < r.ba + 1 + j)) then now else r.st }
def Rw.dueR (r : Rw) (now above : Int) : Rw := r.stK now above r.due
/-! ### Tick -/
structure Tck where
  m : En
  ps : List Pk
def tick1 (now : Int) (s : Tck) (n : Int) : Tck :=
  if (s.m.rw n).st ≤ now ∧ 2 ≤ now - (s.m.rw n).st then ⟨s.m.put n ((s.m.rw n).dueR now 0), s.ps ++ s.m.due n (s.m.rw n) 0⟩ else s
def En.tick (m : En) (now : Int) : En × An := let s := m.nodes.foldl (tick1 now) ⟨m, []⟩; (s.m, ⟨s.ps, [], []⟩)
/-! ### Take -/
def En.takeData (m : En) (n i : Int) (h : Hd) (body : List Int) : En × An :=
  let old : Option Cm := m.cm n
  if (match old with | some c => decide (i < c.i) || (decide (i = c.i) && decide (h.c < c.c)) | none => false) then (m, an0)
  else
    let c : Cm := match old with | some c => if i = c.i ∧ h.c = c.c then c else ⟨i, h.c, 0⟩ | none => ⟨i, h.c, 0⟩
    let nx : Bool := !decide (h.s = 0) && (!decide (34359738367 < h.s) && decide (h.s - 1 = c.g))
    let c' : Cm := if nx then { c with g := h.s } else c
    ({ m with cm := fun k => if k = n then some c' else m.cm k }, ⟨[⟨3, m.n, m.i, 8, [⟨n, c'.c, c'.g, i⟩], [], 0, 0, 0, []⟩], if nx then [((n, i), body)] else [], []⟩)
def Rw.acked (r : Rw) (upto : Int) : Option Rw := if upto ≤ r.ba ∨ (r.due : Int) < upto - r.ba then none else some { r with ba := upto, bx := r.bx.drop (upto - r.ba).toNat }
def En.takeAck (m : En) (now : Int) (n i : Int) (h : Hd) : En × An :=
  if h.i ≠ m.i ∨ m.isR n = false ∨ h.c ≠ (m.rw n).cn ∨ i < (m.rw n).ak then (m, an0)
  else if (m.rw n).ak < i ∧ (m.rw n).ak ≠ 0 then (m.put n { (m.rw n).anew with ak := i }, an0)
  else
    let r : Rw := { m.rw n with ak := i }
    match r.acked h.s with
    | none => (m.put n r, an0)
    | some r' => (m.put n (r'.dueR now (r.ba + r.due)), ⟨m.due n r' (r.ba + r.due), [], []⟩)
def En.take (m : En) (now : Int) (p : Pk) : En × An :=
  if p.mayB then
    match p.hs.find? (fun h => decide (h.d = m.n)) with
    | some h => if p.k = 2 then m.takeData p.n p.i h p.bs else m.takeAck now p.n p.i h
    | none => (m, an0)
  else (m, an0)
def En.new (n i : Int) : En := ⟨n, i, fun _ => ⟨1, false, 0, [], 0, 0⟩, fun _ => none⟩
end Go.Proofs.YtniogmefbjfoaaaGreat

namespace Go.Proofs.YtniogmefbjfoaaaGreat
set_option linter.unusedSimpArgs false
set_option linter.unusedVariables false
set_option linter.unusedSectionVars false
open Go.RowKit

theorem own_emHd (w : World) (m : Nat) (hm : w.heap.size = m) : (w.alloc (.cells #[] 93)).ownsRow m 93 4 (.slice (some ⟨m, 0, none⟩) 0 0) 0 [] := by subst hm; exact World.ownsRow_lit w #[] 0 (Nat.le_refl _) (by unfold maxLen; omega) rfl
def RetHd (w : World) (hs : List Hd) (e : Ending) (w' : World) : Prop := ∃ v, e = .returned v ∧ w'.ownsRow w.heap.size 93 4 v hs.length (hcs hs) ∧ Below w.heap.size w w'
set_option maxRecDepth 100000 in
theorem cloneHd_s (A : Option Addr) (c : Nat) (hs : List Hd) (w : World) (h : Reads w w.heap.size 4 A hs.length (hcs hs)) (hl : hs.length ≤ 1000000) : Calls Tryz.prog 57 #[.slice A hs.length c] w (RetHd w hs) := by
  haveI : Src w A hs.length 4 (hcs hs) := ⟨h⟩
  cases A with
  | none =>
    have h0 : hs = [] := by
      match hs, h with
      | [], _ => rfl
      | x :: l, h => obtain ⟨b, off, e, _⟩ := h.2 (by simp); cases e
    subst h0
    have hnl : ∀ W, Sem.run Tryz.prog (binOp BinOp.eql 38 (.slice none 0 c) (.slice none 0 0)) W = .ok (.bool true) W := fun W => by first | rfl | (simp [go_sem]; done) | kernel_rfl
    clear h
    go_enter Tryz.func57, Tryz.ntmps57
    go_wp2_with ((at_builtin; refine wpList_append_w Tryz.okHd rfl (.tmp 5) (.tmp 6) rfl w.heap.size (.slice (some ⟨w.heap.size, 0, none⟩) 0 0) 0 [] 0 (hcs []) ?_ ?_ ?_ ?_ ?_ ?_ ?_ ?_; go_must ((focus (first | rfl | (simp [Act.eval, Act.put]; done))); (focus (exact own_emHd _ w.heap.size (by simp))); (focus (refine ⟨_, _, rfl, ?_⟩; exact src)); (focus (exact hc_one _)); (focus (unfold maxLen; omega)); (focus omega); (focus (first | omega | (simp; done) | (simp; omega) | exact blw.size | exact BoxAt.lt (n := w.heap.size) inferInstance)); intro v1 w1 ho1 hg1; rw [List.nil_append] at ho1; have O1 := hide ho1; have HB := hide (grown_belowT (B := w.heap.size) hg1 (by simp) (fun k hk => by have e : w.heap.size = k := Option.some.inj hk; omega)); obtain ⟨A1, c1, rfl, _, _⟩ := own_slice ho1; clear ho1 hg1)))
    all_goals
      go_wp2
      go_ret
      first
        | exact ⟨_, rfl, World.ownsRow_nil _ _ _ _, Below.refl _ _⟩
        | exact ⟨_, rfl, O1.out, (below_alloc _ _).trans HB.out⟩
  | some a =>
    have hnl : ∀ W, Sem.run Tryz.prog (binOp BinOp.eql 38 (.slice (some a) hs.length c) (.slice none 0 0)) W = .ok (.bool false) W := fun W => by first | rfl | (simp [go_sem]; done) | kernel_rfl
    clear h
    go_enter Tryz.func57, Tryz.ntmps57
    go_wp2_with ((at_builtin; refine wpList_append_w Tryz.okHd rfl (.tmp 5) (.tmp 6) rfl w.heap.size (.slice (some ⟨w.heap.size, 0, none⟩) 0 0) 0 [] hs.length (hcs hs) ?_ ?_ ?_ ?_ ?_ ?_ ?_ ?_; go_must ((focus (first | rfl | (simp [Act.eval, Act.put]; done))); (focus (exact own_emHd _ w.heap.size (by simp))); (focus (refine ⟨_, _, rfl, ?_⟩; exact src)); (focus (exact hc_one _)); (focus (unfold maxLen; omega)); (focus omega); (focus (first | omega | (simp; done) | (simp; omega) | exact blw.size | exact BoxAt.lt (n := w.heap.size) inferInstance)); intro v1 w1 ho1 hg1; rw [Nat.zero_add, List.nil_append] at ho1; have O1 := hide ho1; have HB := hide (grown_belowT (B := w.heap.size) hg1 (by simp) (fun k hk => by have e : w.heap.size = k := Option.some.inj hk; omega)); obtain ⟨A1, c1, rfl, _, _⟩ := own_slice ho1; clear ho1 hg1)))
    go_wp2
    go_ret
    exact ⟨_, rfl, O1.out, (below_alloc _ _).trans HB.out⟩
/-- the first place of p in l, or -1 -/
def idxI (l : List Int) (p : Int) : Int := if p ∈ l then (l.idxOf p : Int) else -1
theorem idxOfI_take {l : List Int} {p : Int} {k : Nat} (h : p ∉ l.take k) (hk : l[k]? = some p) : l.idxOf p = k := by
  have hl := (List.getElem?_eq_some_iff.1 hk).1
  have e : l = l.take k ++ (p :: l.drop (k + 1)) := by
    have h2 : l.drop k = p :: l.drop (k + 1) := by
      rw [List.drop_eq_getElem_cons hl]
      obtain ⟨_, h3⟩ := List.getElem?_eq_some_iff.1 hk
      rw [h3]
    rw [← h2, List.take_append_drop]
  rw [e, List.idxOf_append, if_neg h]
  rw [List.idxOf_cons_self, List.length_take]; omega
theorem take_succI {l : List Int} {p : Int} {k : Nat} (hk : l[k]? = some p) : l.take (k + 1) = l.take k ++ [p] := by rw [List.take_add_one, hk]; rfl
set_option maxHeartbeats 400000 in
theorem indexI_s (A : Option Addr) (c : Nat) (l : List Int) (x : Int) (w : World) (hR : Il w A l) (hn : l.length ≤ 1000000) :
    Calls Tryz.prog 53 #[.slice A l.length c, .int .i64 x] w fun e w' => e = .returned (.int .i64 (idxI l x)) ∧ Below w.heap.size w w' := by
  go_enter Tryz.func53, Tryz.ntmps53
  go_wp2
  go_loopw [8] (fun i wr => ∃ k q : Nat, k ≤ l.length ∧ i = .int .i64 k ∧ wr = w.drewN q ∧ x ∉ l.take k) (fun i _ => l.length - (intOf i).toNat)
  case atStart => exact ⟨0, 0, Nat.zero_le _, rfl, rfl, by simp⟩
  case round =>
    obtain ⟨k, q, hk, rfl, rfl, hnot⟩ := hrel
    have HN := hide hnot
    clear hnot
    by_cases hlt : k < l.length
    · obtain ⟨b, off, p, rfl, hb, hp, g1⟩ := Reads.atI hR hlt
      have HP := hide hp
      clear hp hR
      have i0 : (0 : Int) ≤ (k : Int) := by omega
      have i1 : (k : Int) < (l.length : Int) := by omega
      by_cases he : x = p
      · have H := hide (show idxI l x = k by
          have hp := HP.out
          rw [← he] at hp
          unfold idxI
          rw [if_pos (List.mem_of_getElem? hp), idxOfI_take HN.out hp])
        have he2 : (x == p) = true := by simpa using he
        have he3 : (p == x) = true := by simpa using he.symm
        clear he
        go_wp2
        go_ret
        exact ⟨ret_i (by rw [H.out]), (by repeat (first | exact Below.refl _ _ | assumption | refine below_drewN ?_ _ | refine Below.drew ?_ | refine Below.alloc ?_ (by simp <;> omega) _))⟩
      · have H := hide (show x ∉ l.take (k + 1) by
          rw [take_succI HP.out, List.mem_append, List.mem_singleton]
          rintro (h | h)
          · exact HN.out h
          · exact he h)
        have he2 : (x == p) = false := by simpa using he
        have he3 : (p == x) = false := by simpa using (fun e => he e.symm)
        clear he
        go_wp2
        go_roundw
        case rel => exact ⟨k + 1, _, by omega, by go_num, rfl, H.out⟩
        case measure => simp [intOf]; omega
    · have H := hide (show idxI l x = -1 by
        unfold idxI
        have := HN.out; rw [List.take_of_length_le (by omega)] at this; rw [if_neg this])
      go_wp2
      go_ret
      exact ⟨ret_i (by rw [H.out]), (by repeat (first | exact Below.refl _ _ | assumption | refine below_drewN ?_ _ | refine Below.drew ?_ | refine Below.alloc ?_ (by simp <;> omega) _))⟩
theorem idxI_neg (l : List Int) (p : Int) : decide (0 ≤ idxI l p) = decide (p ∈ l) := by
  rw [decide_eq_decide]; unfold idxI
  split
  · rename_i h; simp [h]
  · rename_i h; simp [h]
set_option maxHeartbeats 400000 in
theorem containsI_b (A : Option Addr) (c : Nat) (l : List Int) (x : Int) (w : World) (hR : Il w A l) (hn : l.length ≤ 1000000) :
    Calls Tryz.prog 32 #[.slice A l.length c, .int .i64 x] w (RetB w (decide (x ∈ l))) := by
  have H := hide (idxI_neg l x)
  go_enter Tryz.func32, Tryz.ntmps32
  go_wp2_with fail
  refine (indexI_s A c l x _ hR hn).mono ?_
  rintro e w2 ⟨rfl, hb⟩
  go_wp2
  go_ret
  exact ⟨ret_b H.out, hb⟩
end Go.Proofs.YtniogmefbjfoaaaGreat

namespace Go.Proofs.YtniogmefbjfoaaaGreat
set_option linter.unusedSimpArgs false
set_option linter.unusedVariables false
set_option linter.unusedSectionVars false
open Go.RowKit

def ownL (v : Value) : List Nat := v.ownBlock.toList
theorem mem_ownL {v : Value} {i : Nat} : i ∈ ownL v ↔ v.ownBlock = some i := by simp [ownL]
/-- behind an append -/
theorem Tr.app {X W : World} {v v' : Value} (hg : X.grownBy W v.ownBlock) (ha : v'.ownBlock = v.ownBlock ∨ v'.ownBlock = some X.heap.size) : Tr (ownL v) (ownL v') X W :=
  ⟨.grown hg (fun k hk => mem_ownL.2 hk), fun i hi => by
    rw [mem_ownL] at hi ⊢
    rcases ha with h | h
    · rw [h] at hi; exact .inl hi
    · rw [h] at hi; injection hi with hi; exact .inr (by omega)⟩
/-- a body in new memory -/
structure BdP (base : Nat) (W : World) (E : List Nat) (d : Bd) : Prop where
  r : RO W E 1 d.A d.bs.length (bcs d.bs)
  n : ∀ a, d.A = some a → base ≤ a.block
  f : NF W d.A d.bs.length
theorem BdP.tr {base : Nat} {X W : World} {E E' : List Nat} {d : Bd} (h : BdP base X E d) (t : Tr E E' X W) : BdP base W E' d := ⟨h.r.tr t, h.n, h.f.tr h.r t⟩
/-- a row of bodies, all of it in new memory -/
structure BdG (base : Nat) (W : World) (v : Value) (ds : List Bd) : Prop where
  row : W.ownsRow base 37 1 v ds.length (bdcs ds)
  el : ∀ d ∈ ds, BdP base W (ownL v) d
theorem BdG.nil (base : Nat) (W : World) : BdG base W (.slice none 0 0) [] := ⟨World.ownsRow_nil _ _ _ _, fun _ h => by cases h⟩
theorem BdG.app {base : Nat} {X W : World} {v v' : Value} {ds : List Bd} {d : Bd} (h : BdG base X v ds) (hr : W.ownsRow base 37 1 v' (ds.length + 1) (bdcs ds ++ bdcs [d])) (hg : X.grownBy W v.ownBlock) (ha : v'.ownBlock = v.ownBlock ∨ v'.ownBlock = some X.heap.size) (hd : BdP base X (ownL v) d) : BdG base W v' (ds ++ [d]) :=
  ⟨by rw [List.length_append, bdcs_app]; exact hr, fun x hx => by
    rcases List.mem_append.1 hx with h1 | h1
    · exact (h.el x h1).tr (.app hg ha)
    · rw [List.mem_singleton] at h1; subst h1; exact hd.tr (.app hg ha)⟩
theorem BdG.step {base : Nat} {X W : World} {v : Value} {ds : List Bd} (h : BdG base X v ds) (hb : Below X.heap.size X W) : BdG base W v ds := ⟨own_below h.row hb (Nat.le_refl _), fun d hd => (h.el d hd).tr (.bel hb)⟩
theorem BdP.own {base : Nat} {W : World} {A : Option Addr} {c : Nat} {bs : List Int} {E : List Nat} (h : OwnB W base (.slice A bs.length c) bs) (hE : ∀ i ∈ E, i < base) (lo : Nat) (hlo : lo ≤ base) : BdP lo W E ⟨A, c, bs⟩ := ⟨.own h hE, fun a ha => by
  subst ha
  exact Nat.le_trans hlo (h.lt _ rfl).1, .own h⟩
theorem BdG.new {base : Nat} {W : World} {A : Option Addr} {c : Nat} {ds : List Bd} (h : BdG base W (.slice A ds.length c) ds) : BdsN W base A ds := ⟨⟨Reads.of_own h.row, fun d hd => (h.el d hd).r.1⟩, fun a ha => by subst ha; exact (h.row.lt _ rfl).1, fun d hd => (h.el d hd).n⟩
theorem reads_bd1x (W : World) (m : Nat) (d : Bd) [h : BoxAt W m #[.slice d.A d.bs.length d.c] 37] : Reads W W.heap.size 1 (some ⟨m, 0, none⟩) 1 (bdcs [d]) :=
  ⟨rfl, fun _ => ⟨_, _, rfl, h.lt, fun j u hu => by
    match j, hu with
    | 0, hu => simp [bdcs, bdc] at hu; subst hu; rw [cell?_box]; rfl
    | j + 1, hu => simp [bdcs, bdc] at hu⟩⟩
abbrev sndV (ba : Int) (A : Option Addr) (n c : Nat) : Value := .agg #[.int .u64 ba, .slice A n c]
/-- bodies that a sender may have -/
def BsOk (l : List (List Int)) : Prop := ∀ b ∈ l, 1 ≤ b.length ∧ b.length ≤ 320
set_option maxRecDepth 100000 in
set_option maxHeartbeats 2000000 in
theorem wmay_s (ba : Int) (A : Option Addr) (c : Nat) (ds : List Bd) (w : World) (h : BdsR w A ds) (hl : ds.length ≤ 48) (hb0 : 0 ≤ ba) (hb : ba + ds.length ≤ 34359738367) (ho : ∀ d ∈ ds, 1 ≤ d.bs.length ∧ d.bs.length ≤ 320) :
    Calls Tryz.prog 54 #[sndV ba A ds.length c] w (RetB w true) := by
  haveI : Src w A ds.length 1 (bdcs ds) := ⟨h.r⟩
  have d1 : decide ((48 : Int) < (ds.length : Int)) = false := decide_eq_false (by omega)
  have d2 : decide (34359738367 - (ds.length : Int) < ba) = false := decide_eq_false (by omega)
  have HO := hide ho
  clear h ho hb0 hb
  go_enter Tryz.func54, Tryz.ntmps54
  go_wp2_with fail
  go_loopw [22] (fun j wr => ∃ m : Nat, m ≤ ds.length ∧ j = .int .i64 m ∧ Below w.heap.size w wr ∧ BoxAt wr w.heap.size #[.int .u64 ba, .slice A ds.length c] 68) (fun j _ => ds.length - (intOf j).toNat)
  case atStart => exact ⟨0, Nat.zero_le _, rfl, blw, inferInstance⟩
  case round =>
    obtain ⟨m, hm, rfl, hB, hbx⟩ := hrel
    haveI : Blw w wr := ⟨hB⟩
    haveI := hbx
    clear hB d1 d2
    by_cases hlt : m < ds.length
    · have HR : Hid (Reads wr w.heap.size 1 A ds.length (bdcs ds)) := hide srcB
      obtain ⟨b, off, p, rfl, hb, hp, g1⟩ := HR.out.atBd hlt
      have hpl := HO.out p (List.mem_of_getElem? hp)
      haveI : CellAt wr b (off + m) (.slice p.A p.bs.length p.c) := ⟨Nat.lt_of_lt_of_le hb (Blw.size inferInstance), g1⟩
      have i0 : (0 : Int) ≤ (m : Int) := by omega
      have i1 : (m : Int) < (ds.length : Int) := by omega
      have e1 : decide ((p.bs.length : Int) < 1) = false := decide_eq_false (by omega)
      have e2 : decide ((448 : Int) < (p.bs.length : Int)) = false := decide_eq_false (by omega)
      clear hp hb g1 hpl
      go_wp2_with fail
      go_roundw
      case rel => exact ⟨m + 1, by omega, by go_num, blw, inferInstance⟩
      case measure => simp [intOf]; omega
    · obtain rfl : m = ds.length := by omega
      go_wp2_with fail
      go_ret
      exact ⟨rfl, blw⟩
/-- a number, in a world that has grown -/
def RetZ (w : World) (x : Int) (e : Ending) (w' : World) : Prop := e = .returned (.int .i64 x) ∧ Below w.heap.size w w'
theorem wdue_s (ba : Int) (A : Option Addr) (n c : Nat) (w : World) (hl : n ≤ 48) : Calls Tryz.prog 81 #[sndV ba A n c] w (RetZ w (min n 8 : Nat)) := by
  by_cases h : n ≤ 8
  · have e : ((min n 8 : Nat) : Int) = (n : Int) := by omega
    rw [e]
    have d1 : decide ((n : Int) ≤ 8) = true := decide_eq_true (by omega)
    have d2 : decide ((8 : Int) < (n : Int)) = false := decide_eq_false (by omega)
    have d3 : decide ((n : Int) ≤ (8 : Int)) = true := decide_eq_true (by omega)
    have hmin : min (n : Int) 8 = n := by omega
    clear h e
    go_enter Tryz.func81, Tryz.ntmps81
    go_wp2_with fail
    go_ret
    exact ⟨ret_i (by first | rfl | omega), blw⟩
  · have e : ((min n 8 : Nat) : Int) = 8 := by omega
    rw [e]
    have d2 : decide ((8 : Int) < (n : Int)) = true := decide_eq_true (by omega)
    have hmin : min (n : Int) 8 = 8 := by omega
    clear h e
    go_enter Tryz.func81, Tryz.ntmps81
    go_wp2_with fail
    go_ret
    exact ⟨ret_i (by first | rfl | omega), blw⟩
set_option maxRecDepth 100000 in
set_option maxHeartbeats 4000000 in
theorem copied_s (A : Option Addr) (c : Nat) (ds : List Bd) (w : World) (h : BdsR w A ds) (hl : ds.length ≤ 1000) (hbl : ∀ d ∈ ds, d.bs.length ≤ 1000000) :
    Calls Tryz.prog 55 #[.slice A ds.length c] w fun e w' => ∃ v ds', e = .returned v ∧ ds'.map Bd.bs = ds.map Bd.bs ∧ BdG w.heap.size w' v ds' ∧ Below w.heap.size w w' := by
  have HD := hide h
  have HL := hide hbl
  clear h hbl
  go_enter Tryz.func55, Tryz.ntmps55
  go_wp2_with fail
  go_loopw [8, 3] (fun j v wr => ∃ (m : Nat) (ds' : List Bd), m ≤ ds.length ∧ j = .int .i64 m ∧ BdG w.heap.size wr v ds' ∧ ds'.map Bd.bs = (ds.take m).map Bd.bs ∧ Below w.heap.size w wr) (fun j _ _ => ds.length - (intOf j).toNat)
  case atStart => exact ⟨0, [], Nat.zero_le _, rfl, BdG.nil _ _, rfl, Below.refl _ _⟩
  case round =>
    obtain ⟨m, ds', hm, rfl, ho, he, hB⟩ := hrel
    obtain ⟨A5, c5, rfl, _, _⟩ := own_slice ho.row
    haveI : Blw w wr := ⟨hB⟩
    have HO := hide ho
    have HE := hide he
    have zr := hB.size
    have hdl : ds'.length = m := by have := congrArg List.length he; simp at this; omega
    clear ho hB he
    by_cases hlt : m < ds.length
    · have HD2 := hide (HD.out.step (W := wr) blw)
      obtain ⟨b, off, p, rfl, hb, hp, g1⟩ := HD2.out.r.atBd hlt
      haveI : CellAt wr b (off + m) (.slice p.A p.bs.length p.c) := ⟨hb, g1⟩
      have hpm := List.mem_of_getElem? hp
      haveI : Src wr p.A p.bs.length 1 (bcs p.bs) := ⟨HD2.out.b p hpm⟩
      have hpl := HL.out p hpm
      have HTK := hide (show (ds.take (m + 1)).map Bd.bs = (ds.take m).map Bd.bs ++ [p.bs] by rw [take_succ_of hp]; simp)
      have i0 : (0 : Int) ≤ (m : Int) := by omega
      have i1 : (m : Int) < (ds.length : Int) := by omega
      have hdl2 : ds'.length ≤ 1000 := by omega
      clear hp hb g1 hpm hdl
      go_wp2_with (first
        | (go_at_call 56; (with_reducible refine (cloneB_s p.A p.c p.bs _ src hpl).mono ?_); rintro e w1 ⟨v1, rfl, ho1, hb1⟩; haveI : Stp _ w1 := ⟨hb1⟩; obtain ⟨A1, c1, rfl, _, _⟩ := own_slice ho1; have HC := hide ho1; have z1 := hb1.size; clear ho1 hb1)
        | (at_builtin; refine wpList_append_x Tryz.okBd rfl (.tmp 12) (.tmp 15) rfl w.heap.size (.slice A5 ds'.length c5) ds'.length (bdcs ds') 1 (bdcs [⟨A1, c1, p.bs⟩]) ?_ ?_ ?_ ?_ ?_ ?_ ?_ ?_; go_must ((focus (first | rfl | (simp [Act.eval, Act.put]; done))); (focus (exact own_tc HO.out.row)); (focus (refine ⟨_, _, rfl, ?_⟩; exact reads_bd1x _ _ ⟨A1, c1, p.bs⟩)); (focus (exact bdcs_one _)); (focus (unfold maxLen; omega)); (focus omega); (focus (first | omega | (simp; done) | (simp; omega) | exact blw.size | exact BoxAt.lt (n := w.heap.size) inferInstance)); intro v7 w7 ho7 hg7 ha7; haveI : StpB w.heap.size _ w7 := ⟨grown_belowT hg7 (by simp; omega) (fun q hq => (HO.out.row.lt q hq).1)⟩; have O7 := hide (BdG.app (d := ⟨A1, c1, p.bs⟩) (HO.out.step blw) ho7 hg7 ha7 ((BdP.own HC.out (fun i hi => (HO.out.row.lt i (mem_ownL.1 hi)).2) w.heap.size zr).tr (.bel (below_alloc _ _)))); clear ho7 hg7 ha7)))
      go_wp2
      go_roundw
      case rel => exact ⟨m + 1, _, by omega, by go_num, O7.out, by rw [HTK.out, List.map_append, HE.out]; rfl, blw⟩
      case measure => simp [intOf]; omega
    · obtain rfl : m = ds.length := by omega
      clear hdl
      go_wp2_with fail
      go_ret
      exact ⟨_, _, rfl, by have := HE.out; rwa [List.take_length] at this, HO.out, blw⟩
end Go.Proofs.YtniogmefbjfoaaaGreat

namespace Go.Proofs.YtniogmefbjfoaaaGreat
set_option linter.unusedSimpArgs false
set_option linter.unusedVariables false
set_option linter.unusedSectionVars false
open Go.RowKit

theorem own_lo {W : World} {base lo : Nat} {e : TypeId} {k n : Nat} {v : Value} {xs : List Value} (h : W.ownsRow base e k v n xs) (hl : lo ≤ base) : W.ownsRow lo e k v n xs := by
  refine ⟨h.1, h.2.imp id ?_⟩
  rintro ⟨g, cap, cur, rfl, hbase, hg, h1⟩
  exact ⟨g, cap, cur, rfl, Nat.le_trans hl hbase, hg, h1⟩
theorem BdG.lo {base lo : Nat} {W : World} {v : Value} {ds : List Bd} (h : BdG base W v ds) (hl : lo ≤ base) : BdG lo W v ds := ⟨own_lo h.row hl, fun d hd => ⟨(h.el d hd).r, fun a ha => Nat.le_trans hl ((h.el d hd).n a ha), (h.el d hd).f⟩⟩
/-- a body that was there ahead of the row -/
theorem BdP.own2 {base : Nat} {W : World} {A : Option Addr} {c : Nat} {bs : List Int} {E : List Nat} (h : OwnB W base (.slice A bs.length c) bs) (hE : ∀ i ∈ E, W.heap.size ≤ i) (lo : Nat) (hlo : lo ≤ base) : BdP lo W E ⟨A, c, bs⟩ := ⟨⟨Reads.of_own h, fun _ a ha hm => by
  subst ha
  have h1 := (h.lt _ rfl).2
  have h2 := hE _ hm
  omega⟩, fun a ha => by
  subst ha
  exact Nat.le_trans hlo (h.lt _ rfl).1, .own h⟩
theorem BdsN.gr {B : Nat} {X W : World} {A : Option Addr} {ds : List Bd} {C : List Nat} (h : BdsN X B A ds) (hg : Gr C X W) (hC : ∀ i ∈ C, i < B) : BdsN W B A ds := ⟨((h.ro hC).tr (.of hg)).rd, h.n, h.m⟩
theorem BdsN.lo {B lo : Nat} {W : World} {A : Option Addr} {ds : List Bd} (h : BdsN W B A ds) (hl : lo ≤ B) : BdsN W lo A ds := ⟨h.o, fun a ha => Nat.le_trans hl (h.n a ha), fun d hd a ha => Nat.le_trans hl (h.m d hd a ha)⟩
/-- what Push answers -/
def RetPush (w : World) (ba : Int) (L : List (List Int)) (e : Ending) (w' : World) : Prop := ∃ A c ds, e = .returned (.tuple #[sndV ba A L.length c, .int .i64 0]) ∧ ds.map Bd.bs = L ∧ BdsN w' w.heap.size A ds ∧ Below w.heap.size w w' ∧ L.length ≤ c
set_option maxRecDepth 100000 in
set_option maxHeartbeats 4000000 in
theorem push_full (ba : Int) (A : Option Addr) (c : Nat) (ds : List Bd) (BA : Option Addr) (bl bc : Nat) (w : World) (h : BdsR w A ds) (hl : ds.length ≤ 48) (hb0 : 0 ≤ ba) (hb : ba + ds.length ≤ 34359738367) (ho : ∀ d ∈ ds, 1 ≤ d.bs.length ∧ d.bs.length ≤ 320) (h1 : 1 ≤ bl) (h2 : bl ≤ 320)
    (hf : (decide (48 ≤ ds.length) || decide (34359738367 ≤ ba + ds.length)) = true) :
    Calls Tryz.prog 35 #[sndV ba A ds.length c, .slice BA bl bc] w fun e w' => e = .returned (.tuple #[sndV 0 none 0 0, .int .i64 4]) ∧ Below w.heap.size w w' := by
  have TM := hide (fun W (h : BdsR W A ds) => wmay_s ba A c ds W h hl hb0 hb ho)
  have HD := hide h
  have e1 : decide ((bl : Int) < 1) = false := decide_eq_false (by omega)
  have e2 : decide ((448 : Int) < (bl : Int)) = false := decide_eq_false (by omega)
  by_cases g1 : 48 ≤ ds.length
  · have e3 : decide ((48 : Int) ≤ (ds.length : Int)) = true := decide_eq_true (by omega)
    clear h ho hf g1
    go_enter Tryz.func35, Tryz.ntmps35
    go_wp2_with (go_at_call 54; (with_reducible refine (TM.out _ (HD.out.step blw)).mono ?_); rintro e w1 ⟨rfl, hb1⟩; haveI : Stp _ w1 := ⟨hb1⟩; clear hb1)
    refine bodyPost_ret (v := .tuple #[sndV 0 none 0 0, .int .i64 4]) (by simp [results, Tryz.results35, go_sem]) rfl ?_
    exact ⟨rfl, blw⟩
  · have e3 : decide ((48 : Int) ≤ (ds.length : Int)) = false := decide_eq_false (by omega)
    have e4 : decide ((34359738367 : Int) ≤ ba + (ds.length : Int)) = true := decide_eq_true (by simp at hf; omega)
    clear h ho hf g1
    go_enter Tryz.func35, Tryz.ntmps35
    go_wp2_with (go_at_call 54; (with_reducible refine (TM.out _ (HD.out.step blw)).mono ?_); rintro e w1 ⟨rfl, hb1⟩; haveI : Stp _ w1 := ⟨hb1⟩; clear hb1)
    refine bodyPost_ret (v := .tuple #[sndV 0 none 0 0, .int .i64 4]) (by simp [results, Tryz.results35, go_sem]) rfl ?_
    exact ⟨rfl, blw⟩
set_option maxRecDepth 100000 in
set_option maxHeartbeats 8000000 in
theorem push_s (ba : Int) (A : Option Addr) (c : Nat) (ds : List Bd) (BA : Option Addr) (bs : List Int) (bc : Nat) (w : World) (h : BdsR w A ds) (hl : ds.length < 48) (hb0 : 0 ≤ ba) (hb : ba + ds.length < 34359738367) (ho : ∀ d ∈ ds, 1 ≤ d.bs.length ∧ d.bs.length ≤ 320) (hB : Reads w w.heap.size 1 BA bs.length (bcs bs)) (h1 : 1 ≤ bs.length) (h2 : bs.length ≤ 320) :
    Calls Tryz.prog 35 #[sndV ba A ds.length c, .slice BA bs.length bc] w (RetPush w ba (ds.map Bd.bs ++ [bs])) := by
  haveI : Src w BA bs.length 1 (bcs bs) := ⟨hB⟩
  have hbl : bs.length ≤ 1000000 := by omega
  have TM := hide (fun W (h : BdsR W A ds) => wmay_s ba A c ds W h (by omega) hb0 (by omega) ho)
  have TC := hide (fun W (h : BdsR W A ds) => copied_s A c ds W h (by omega) (fun d hd => by have := ho d hd; omega))
  have HD := hide h
  have e1 : decide ((bs.length : Int) < 1) = false := decide_eq_false (by omega)
  have e2 : decide ((448 : Int) < (bs.length : Int)) = false := decide_eq_false (by omega)
  have e3 : decide ((48 : Int) ≤ (ds.length : Int)) = false := decide_eq_false (by omega)
  have e4 : decide ((34359738367 : Int) ≤ ba + (ds.length : Int)) = false := decide_eq_false (by omega)
  clear h ho hB
  go_enter Tryz.func35, Tryz.ntmps35
  go_upto_region 7 with (go_at_call 54; (with_reducible refine (TM.out _ (HD.out.step blw)).mono ?_); rintro e w1 ⟨rfl, hb1⟩; haveI : Stp _ w1 := ⟨hb1⟩; have z1 : w.heap.size + 1 + 1 ≤ w1.heap.size := (by have := hb1.size; simp at this; omega); clear hb1)
  clear TM e1 e2 e3 e4
  go_region_held3 (fun w' => w'.cell? ⟨w.heap.size, 0, none⟩ = some (.int .u64 ba) ∧ w'.cell? ⟨w.heap.size, 1, none⟩ = some (.slice A ds.length c)) ((refine ⟨?_, ?_⟩ <;> (rw [cell?_box]; rfl)))
    (first
      | (go_at_call 55; (with_reducible refine (TC.out _ (HD.out.step blw)).mono ?_); rintro e w2 ⟨v2, ds2, rfl, hm2, hg2, hb2⟩; haveI : Stp _ w2 := ⟨hb2⟩; have z2 : w.heap.size + 1 + 1 ≤ w2.heap.size := Nat.le_trans z1 (Blw.size (a := w1) inferInstance); have HGB := hide (fun i (hi : v2.ownBlock = some i) => (hg2.row.lt i hi).1); have hl2 : ds2.length < 48 := (by have := congrArg List.length hm2; simp at this; omega); obtain ⟨A2, c2, rfl, _, _⟩ := own_slice hg2.row; have HM := hide hm2; have HG := hide (hg2.lo (lo := w.heap.size + 1 + 1) (Nat.le_trans z1 (Blw.size (a := w1) inferInstance))); clear hm2 hg2 hb2)
      | (go_at_call 56; (with_reducible refine (cloneB_s BA bc bs _ src hbl).mono ?_); rintro e w3 ⟨v3, rfl, ho3, hb3⟩; haveI : Stp _ w3 := ⟨hb3⟩; have z3 : w.heap.size + 1 + 1 ≤ w3.heap.size := Nat.le_trans z1 (Blw.size (a := w1) inferInstance); obtain ⟨A3, c3, rfl, _, _⟩ := own_slice ho3; have HC := hide ho3; clear ho3 hb3)
      | (refine step_append_x Tryz.okBd rfl (.tmp 41) (.tmp 44) rfl (w.heap.size + 1 + 1) (.slice A2 ds2.length c2) ds2.length (bdcs ds2) 1 (bdcs [⟨A3, c3, bs⟩]) ?_ ?_ ?_ ?_ ?_ ?_ ?_ ?_; go_must ((focus (first | rfl | (simp [Act.eval, Act.put]; done))); (focus (exact own_tc HG.out.row)); (focus (refine ⟨_, _, by first | rfl | (simp [Act.eval, Act.put]; done), ?_⟩; exact reads_bd1x _ _ ⟨A3, c3, bs⟩)); (focus (exact bdcs_one _)); (focus (unfold maxLen; omega)); (focus omega); (focus (first | omega | (simp; done) | (simp; omega) | exact blw.size | exact BoxAt.lt (n := w.heap.size) inferInstance)); intro v7 w7 ho7 hg7 ha7; haveI : StpB (w.heap.size + 1 + 1) _ w7 := ⟨grown_belowT hg7 (Nat.le_trans z1 (Blw.size (a := w1) inferInstance)) (fun q hq => (HG.out.row.lt q hq).1)⟩; have O7 := hide (BdG.app (d := ⟨A3, c3, bs⟩) (HG.out.step blw) ho7 hg7 ha7 (BdP.tr (by first | exact BdP.own HC.out (fun i hi => Nat.lt_of_lt_of_le (HG.out.row.lt i (mem_ownL.1 hi)).2 (Blw.size inferInstance)) (w.heap.size + 1 + 1) (Nat.le_trans z1 (Blw.size (a := w1) inferInstance)) | exact BdP.own2 HC.out (fun i hi => Nat.le_trans (Blw.size (a := w3) inferInstance) (HGB.out i (mem_ownL.1 hi))) (w.heap.size + 1 + 1) (Nat.le_trans z1 (Blw.size (a := w1) inferInstance))) (.bel blw))); obtain ⟨A7, c7, rfl, hc7, _⟩ := own_slice O7.out.row; clear ho7 hg7 ha7))
      | fail)
  all_goals
    go_wp2
    refine bodyPost_ret (v := .tuple #[sndV ba A7 (ds2.length + 1) c7, .int .i64 0]) (by simp [results, Tryz.results35, go_sem]) rfl ?_
    refine ⟨A7, c7, ds2 ++ [⟨A3, c3, bs⟩], ?_, ?_, ?_, blw, ?_⟩
    · have e1 : (ds.map Bd.bs ++ [bs]).length = ds2.length + 1 := by
        have := congrArg List.length HM.out
        simp at this ⊢
        omega
      rw [e1]
    · rw [List.map_append, HM.out]; rfl
    · have HN := hide (O7.out.new)
      exact (BdsN.gr HN.out (Trc.h (C := [w.heap.size + 1]) (a := w7)).g (by simp)).lo (by omega)
    · have := congrArg List.length HM.out
      simp at this hc7 ⊢
      omega
end Go.Proofs.YtniogmefbjfoaaaGreat

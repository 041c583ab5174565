/-
  Layer 16: a packet that comes a second time tells no text.
-/
import Derived.Test.YtniogmefbjfoaaaOpSx
import Derived.Test.YtniogmefbjfoaaaTwP
import Derived.Test.YtniogmefbjfoaaaSr
namespace Go.Proofs.Ytniogmefbjfoaaa
set_option linter.unusedSimpArgs false
set_option linter.unusedVariables false
set_option linter.unusedSectionVars false
open Go.RowKit Go.Maps

/-! ### an end alone -/
section
variable {W : World} {C : List Nat} {x : Nat} {m : En}
theorem one_take (h : EnO W C C x m) (now : Int) (now0 : 0 ≤ now) (now1 : now ≤ 18446744073709551615) (p : Pk) (HA : Option Addr) (hcp : Nat) (BA : Option Addr) (bcp : Nat) (PA : Option Addr) (pcp : Nat) (hin : PkIn W p HA BA PA) (hB : RO W C 1 BA p.bs.length (bcs p.bs)) :
    Calls Try.prog 12 #[.pointer (some ⟨x, 0, none⟩), .int .u64 now, p.at HA hcp BA bcp PA pcp] W fun e W' => ∃ v C', e = .returned v ∧ AnsM W.heap.size W' v (m.take now p).2 ∧ EnO W' C' C' x (m.take now p).1 ∧ Tr C C' W W' := by
  obtain ⟨rb, fb, rp, cp, hx⟩ := h
  refine (take16_s W hx now now0 now1 p HA hcp BA bcp PA pcp hin hB).mono ?_
  rintro e W' ⟨v, C', cp', rfl, ha, hE, ht⟩
  exact ⟨v, C', rfl, ha, EnO.less ⟨rb, fb, rp, cp', hE⟩ (fun i hi => List.mem_append_left _ hi) (fun i hi => hi), ht⟩
theorem one_tick (h : EnO W C C x m) (now : Int) (now0 : 0 ≤ now) (now1 : now ≤ 18446744073709551615) :
    Calls Try.prog 13 #[.pointer (some ⟨x, 0, none⟩), .int .u64 now] W fun e W' => ∃ v, e = .returned v ∧ AnsM W.heap.size W' v (m.tick now).2 ∧ EnO W' C C x (m.tick now).1 ∧ Gr C W W' := by
  obtain ⟨rb, fb, rp, cp, hx⟩ := h
  refine (tick_s W hx now now0 now1).mono ?_
  rintro e W' ⟨v, rfl, ha, hE, ht⟩
  exact ⟨v, rfl, ha, ⟨rb, fb, rp, cp, hE⟩, ht⟩
theorem one_reliable (h : EnO W C C x m) (A : Option Addr) (c : Nat) (l : List Int) (hl : RO W C 1 A l.length (ics l)) (hn : l.length ≤ 1000000) :
    Calls Try.prog 9 #[.pointer (some ⟨x, 0, none⟩), .slice A l.length c] W fun e W' => e = .returned (.tuple #[]) ∧ EnO W' C C x (m.reliable l) ∧ Gr C W W' := by
  obtain ⟨rb, fb, rp, cp, hx⟩ := h
  refine (reliable16_s W hx A c l hl hn).mono ?_
  rintro e W' ⟨rfl, hE, ht⟩
  exact ⟨rfl, ⟨rb, fb, rp, cp, hE⟩, ht⟩
theorem one_send (h : EnO W C C x m) (now : Int) (now0 : 0 ≤ now) (now1 : now ≤ 18446744073709551615) (BA : Option Addr) (bc : Nat) (body : List Int) (hB : RO W C 1 BA body.length (bcs body)) (hbl : body.length ≤ 1000000)
    (DA : Option Addr) (dc : Nat) (dsts : List Int) (hD : RO W C 1 DA dsts.length (ics dsts)) (hdl : dsts.length ≤ 1000000) (hwf : ∀ n ∈ dsts, wfI n) :
    Calls Try.prog 10 #[.pointer (some ⟨x, 0, none⟩), .int .u64 now, .slice BA body.length bc, .slice DA dsts.length dc] W fun e W' => ∃ v, e = .returned (.tuple #[v, .int .i64 (m.send now body dsts).2.2]) ∧ AnsM W.heap.size W' v (m.send now body dsts).2.1 ∧ EnO W' C C x (m.send now body dsts).1 ∧ Gr C W W' := by
  obtain ⟨rb, fb, rp, cp, hx⟩ := h
  refine (send16_s W hx now now0 now1 BA bc body hB hbl DA dc dsts hD hdl hwf).mono ?_
  rintro e W' ⟨v, rfl, ha, hE, ht⟩
  exact ⟨v, rfl, ha, ⟨rb, fb, rp, cp, hE⟩, ht⟩
end
/-! ### steps, read and stored whole -/
theorem Try.infoSx : (Try.prog.info? 34).map (·.size) = some 14 := by kernel_rfl
theorem Try.undSx : (Try.prog.underlying 34).map TypeDesc.isRow = some true := by kernel_rfl
def stSx (a : Addr) (v : Value) : Sem Unit := storeVar 34 a v
def ldSx (a : Addr) : Sem Value := loadVar 34 a
@[go_sem ↓] theorem st_sx (a : Addr) (v : Value) : storeVar 34 a v = stSx a v := rfl
@[go_sem ↓] theorem ld_sx (a : Addr) : loadVar 34 a = ldSx a := rfl
theorem ldSx_at (W : World) (b off : Nat) (s : Sx) (h : ∀ j u, (sxc s)[j]? = some u → W.cell? ⟨b, off + j, none⟩ = some u) : (ldSx ⟨b, off, none⟩).run Try.prog W = .ok (.agg #[.int .i64 s.d, .int .u64 s.now, .slice s.NA s.ns.length s.nc, .slice s.BA s.bd.length s.bc, .int .i64 s.x.k, .int .i64 s.x.n, .int .u64 s.x.i, .int .i64 s.x.hp, .slice s.HA s.x.hs.length s.hc, .slice s.QA s.x.bs.length s.qc, .int .i64 s.x.an, .int .u64 s.x.ai, .int .u64 s.x.sq, .slice s.PA s.x.ps.length s.pc]) W := by
  have hu := Try.undSx
  cases hq : Try.prog.underlying 34 with
  | none => rw [hq] at hu; cases hu
  | some d =>
    rw [hq] at hu
    exact run_loadVar_mid W b off _ (sxc s) d h hq (by simpa using hu) (by rw [sxc_len]; exact Try.infoSx)
@[go_sem] theorem stSx_run (w : World) (g : Nat) (cs : Array Value) (t : TypeId) [k : BoxAt w g cs t] (h : cs.size = 14) (d now k0 n i hp an ai sq : Int) (NA BA HA QA PA : Option Addr) (nl nc bl bc hl hc ql qc pl pc : Nat) :
    (stSx ⟨g, 0, none⟩ (.agg #[.int .i64 d, .int .u64 now, .slice NA nl nc, .slice BA bl bc, .int .i64 k0, .int .i64 n, .int .u64 i, .int .i64 hp, .slice HA hl hc, .slice QA ql qc, .int .i64 an, .int .u64 ai, .int .u64 sq, .slice PA pl pc])).run Try.prog w = .ok () (w.setRow g #[.int .i64 d, .int .u64 now, .slice NA nl nc, .slice BA bl bc, .int .i64 k0, .int .i64 n, .int .u64 i, .int .i64 hp, .slice HA hl hc, .slice QA ql qc, .int .i64 an, .int .u64 ai, .int .u64 sq, .slice PA pl pc]) :=
  run_storeVar_row w g t _ cs _ k.eq Try.infoSx h (by simp [Value.oneCell'])
theorem sxcs_one (l : List Sx) : ∀ u ∈ sxcs l, u.oneCell' = true := by
  intro u hu
  obtain ⟨p, _, hp⟩ := List.mem_flatMap.1 hu
  simp [sxc] at hp
  rcases hp with rfl | rfl | rfl | rfl | rfl | rfl | rfl | rfl | rfl | rfl | rfl | rfl | rfl | rfl <;> rfl
theorem Try.okSx : ElemOk Try.prog 36 34 14 192 := elemOk_of (.agg #[.int .i64 0, .int .u64 0, .slice none 0 0, .slice none 0 0, .int .i64 0, .int .i64 0, .int .u64 0, .int .i64 0, .slice none 0 0, .slice none 0 0, .int .i64 0, .int .u64 0, .int .u64 0, .slice none 0 0]) Try.underlying36 (by kernel_rfl) rfl (by omega)
theorem own_em16 (W : World) (base m : Nat) (hb : base ≤ m) [h : BoxAt W m #[] 34] : W.ownsRow base 34 14 (.slice (some ⟨m, 0, none⟩) 0 0) 0 [] :=
  ⟨rfl, .inr ⟨m, 0, #[], rfl, hb, h.eq, Nat.le_refl _, by unfold maxLen; omega, rfl, rfl⟩⟩
/-- a step that brings a packet -/
abbrev sxP (p : Pk) (HA : Option Addr) (hc : Nat) (BA : Option Addr) (bc : Nat) (PA : Option Addr) (pc : Nat) : Sx := ⟨0, 0, none, 0, [], none, 0, [], p, HA, hc, BA, bc, PA, pc⟩
theorem reads_sxP (W : World) (m : Nat) (p : Pk) (HA : Option Addr) (hc : Nat) (BA : Option Addr) (bc : Nat) (PA : Option Addr) (pc : Nat) [h : BoxAt W m #[.int .i64 0, .int .u64 0, .slice none 0 0, .slice none 0 0, .int .i64 p.k, .int .i64 p.n, .int .u64 p.i, .int .i64 p.hp, .slice HA p.hs.length hc, .slice BA p.bs.length bc, .int .i64 p.an, .int .u64 p.ai, .int .u64 p.sq, .slice PA p.ps.length pc] 34] : Reads W W.heap.size 14 (some ⟨m, 0, none⟩) 1 (sxcs [sxP p HA hc BA bc PA pc]) :=
  ⟨rfl, fun _ => ⟨_, _, rfl, h.lt, fun j u hu => by
    have hj : (sxc (sxP p HA hc BA bc PA pc))[j]? = some u := by simpa [sxcs] using hu
    rw [Nat.zero_add, cell?_box, ← hj]
    simp [sxc]⟩⟩
theorem few_each {l : List Sx} (h : fewB l = true) : l.length ≤ 400 ∧ ∀ s ∈ l, s.ns.length ≤ 4000 ∧ s.x.hs.length ≤ 4000 ∧ s.x.ps.length ≤ 4000 ∧ s.bd.length ≤ 600000 ∧ s.x.bs.length ≤ 600000 := by
  unfold fewB at h
  rw [Bool.and_eq_true, decide_eq_true_eq, decide_eq_true_eq] at h
  refine ⟨h.1, fun s hs => ?_⟩
  have key : ∀ (l : List Sx), s ∈ l → fewN s ≤ fewS l := by
    intro l
    induction l with
    | nil => intro h; cases h
    | cons t l ih =>
      intro h
      unfold fewS at ih ⊢
      rw [List.map_cons, List.sum_cons]
      rcases List.mem_cons.1 h with rfl | h
      · omega
      · have := ih h; omega
  have h1 := key l hs
  have h2 := Nat.le_trans h1 h.2
  unfold fewN at h2
  omega
theorem ro_old {w W : World} {C : List Nat} {k n : Nat} {A : Option Addr} {xs : List Value} (h : Reads w w.heap.size k A n xs) (hb : Below w.heap.size w W) (hC : ∀ i ∈ C, w.heap.size ≤ i) : RO W C k A n xs :=
  ⟨(h.below hb).more hb.size, fun hn a ha hm => by
    obtain ⟨b, off, e, hlt, _⟩ := h.2 hn
    rw [e] at ha
    injection ha with ha
    subst ha
    have := hC b hm
    omega⟩
theorem few_at {L : List Sx} {sp : Sx} {l : List Sx} (e : L = l ++ [sp]) (W : World) (A : Option Addr) (c : Nat) (h : Reads W W.heap.size 14 A (l.length + 1) (sxcs l ++ sxcs [sp])) : Calls Try.prog 7 #[.slice A (l.length + 1) c] W (RetFew W L) := by
  subst e
  have e1 : (l ++ [sp]).length = l.length + 1 := by simp
  have e2 : sxcs (l ++ [sp]) = sxcs l ++ sxcs [sp] := by simp [sxcs]
  have := few16_s W A c (l ++ [sp]) (by rw [e1, e2]; exact h)
  rwa [e1] at this
set_option maxRecDepth 100000 in
set_option maxHeartbeats 16000000 in
theorem cofifoTwice_true (q : Pr) (A : Option Addr) (c : Nat) (l : List Sx) (now : Int) (p : Pk) (HA : Option Addr) (hc : Nat) (BA : Option Addr) (bc : Nat) (PA : Option Addr) (pc : Nat) (w : World) (hq : wfP q) (hl : l.length * 192 ≤ 140737488351232) (h : Reads w w.heap.size 14 A l.length (sxcs l)) (hm : ∀ s ∈ l, SxRd w s ∧ s.small) (hnow : 0 ≤ now ∧ now ≤ 18446744073709551615) (hp : PkRd w p HA BA PA) (hps : p.hs.length ≤ 140737488355328 ∧ p.ps.length ≤ 140737488355328 ∧ p.bs.length ≤ 140737488355328) :
    Calls Try.prog 6 #[.agg #[.int .i64 q.1, .int .u64 q.2], .slice A l.length c, .int .u64 now, p.at HA hc BA bc PA pc] w (RetB w true) := by
  obtain ⟨L, hL⟩ : ∃ L, L = l ++ [sxP p HA hc BA bc PA pc] := ⟨_, rfl⟩
  have HSM : Hid (∀ s ∈ L, s.small) := hide (fun s hs => by
    rw [hL] at hs
    rcases List.mem_append.1 hs with h1 | h1
    · exact (hm s h1).2
    · rw [List.mem_singleton.1 h1]
      exact ⟨by simp, hps.1, hps.2.1, by simp, hps.2.2⟩)
  have TF := hide (fun W A c h => few_at (l := l) hL W A c h)
  have HL := hide hL
  have HM := hide hm
  have HP := hide hp
  haveI : Src w A l.length 14 (sxcs l) := ⟨h⟩
  have HS := hide h
  have HQ := hide hq
  have hl2 : l.length ≤ 733007751850 := by omega
  obtain ⟨now0, now1⟩ := hnow
  clear hL hm hp hps h hq
  go_enter Try.func6, Try.ntmps6
  go_upto_region 1 with fail
  go_cut [22] (fun s22 wx => s22 = .bool (!(fewB L)) ∧ BoxAt wx w.heap.size #[.int .i64 q.1, .int .u64 q.2] 26 ∧ BoxAt wx (w.heap.size + 1) #[.int .i64 p.k, .int .i64 p.n, .int .u64 p.i, .int .i64 p.hp, .slice HA p.hs.length hc, .slice BA p.bs.length bc, .int .i64 p.an, .int .u64 p.ai, .int .u64 p.sq, .slice PA p.ps.length pc] 32 ∧ Below w.heap.size w wx)
  case first =>
    go_region_held3 (fun w' => w'.cell? ⟨w.heap.size + 1, 0, none⟩ = some (.int .i64 p.k) ∧ w'.cell? ⟨w.heap.size + 1, 1, none⟩ = some (.int .i64 p.n) ∧ w'.cell? ⟨w.heap.size + 1, 2, none⟩ = some (.int .u64 p.i) ∧ w'.cell? ⟨w.heap.size + 1, 3, none⟩ = some (.int .i64 p.hp) ∧ w'.cell? ⟨w.heap.size + 1, 4, none⟩ = some (.slice HA p.hs.length hc) ∧ w'.cell? ⟨w.heap.size + 1, 5, none⟩ = some (.slice BA p.bs.length bc) ∧ w'.cell? ⟨w.heap.size + 1, 6, none⟩ = some (.int .i64 p.an) ∧ w'.cell? ⟨w.heap.size + 1, 7, none⟩ = some (.int .u64 p.ai) ∧ w'.cell? ⟨w.heap.size + 1, 8, none⟩ = some (.int .u64 p.sq) ∧ w'.cell? ⟨w.heap.size + 1, 9, none⟩ = some (.slice PA p.ps.length pc)) ((refine ⟨?_, ?_, ?_, ?_, ?_, ?_, ?_, ?_, ?_, ?_⟩ <;> (rw [cell?_box]; rfl)))
      (first
        | (refine step_append_w Try.okSx rfl (.tmp 14) (.tmp 15) rfl (w.heap.size + 1 + 1) (.slice (some ⟨w.heap.size + 1 + 1, 0, none⟩) 0 0) 0 [] l.length (sxcs l) ?_ ?_ ?_ ?_ ?_ ?_ ?_ ?_; ((focus (first | rfl | (simp [Act.eval, Act.put]; done))); (focus (exact own_em16 _ _ _ (by omega))); (focus (refine ⟨_, _, by first | rfl | (simp [Act.eval, Act.put]; done), ?_⟩; exact src)); (focus (exact sxcs_one _)); (focus (unfold maxLen; omega)); (focus omega); (focus (first | omega | (simp; done) | (simp; omega) | exact blw.size | exact BoxAt.lt (n := w.heap.size) inferInstance)); intro v7 w7 ho7 hg7; rw [Nat.zero_add, List.nil_append] at ho7; haveI : StpG (w.heap.size + 1 + 1) _ w7 := ⟨hg7⟩; have z7 : w.heap.size + 1 + 1 ≤ w7.heap.size := (by have := hg7.size; (try simp at this); omega); obtain ⟨A7, c7, rfl, _, _⟩ := own_slice ho7; have O7 := hide ho7; have HM7 : Hid (w.heap.size + 1 + 1 ≤ (w.heap.size + 1 + 1 : Nat)) := hide (by omega); clear ho7 hg7))
        | (refine step_append_w Try.okSx rfl (.tmp 14) (.tmp 15) rfl (w.heap.size + 1 + 1) (.slice (some ⟨w.heap.size + 1 + 1 + 1, 0, none⟩) 0 0) 0 [] l.length (sxcs l) ?_ ?_ ?_ ?_ ?_ ?_ ?_ ?_; go_must ((focus (first | rfl | (simp [Act.eval, Act.put]; done))); (focus (exact own_em16 _ _ _ (by omega))); (focus (refine ⟨_, _, by first | rfl | (simp [Act.eval, Act.put]; done), ?_⟩; exact src)); (focus (exact sxcs_one _)); (focus (unfold maxLen; omega)); (focus omega); (focus (first | omega | (simp; done) | (simp; omega) | exact blw.size | exact BoxAt.lt (n := w.heap.size) inferInstance)); intro v7 w7 ho7 hg7; rw [Nat.zero_add, List.nil_append] at ho7; haveI : StpG (w.heap.size + 1 + 1 + 1) _ w7 := ⟨hg7⟩; have z7 : w.heap.size + 1 + 1 ≤ w7.heap.size := (by have := hg7.size; (try simp at this); omega); obtain ⟨A7, c7, rfl, _, _⟩ := own_slice ho7; have O7 := hide ho7; have HM7 : Hid (w.heap.size + 1 + 1 ≤ (w.heap.size + 1 + 1 + 1 : Nat)) := hide (by omega); clear ho7 hg7))
        | (refine step_append_w Try.okSx rfl (.tmp 16) (.tmp 19) rfl (w.heap.size + 1 + 1) (.slice A7 l.length c7) l.length (sxcs l) 1 (sxcs [sxP p HA hc BA bc PA pc]) ?_ ?_ ?_ ?_ ?_ ?_ ?_ ?_; go_must ((focus (first | rfl | (simp [Act.eval, Act.put]; done))); (focus (exact own_tc O7.out)); (focus (refine ⟨_, _, by first | rfl | (simp [Act.eval, Act.put]; done), ?_⟩; exact reads_sxP _ _ p HA hc BA bc PA pc)); (focus (exact sxcs_one _)); (focus (unfold maxLen; omega)); (focus omega); (focus (first | omega | (simp; done) | (simp; omega) | exact blw.size | exact BoxAt.lt (n := w.heap.size) inferInstance)); intro v8 w8 ho8 hg8; obtain ⟨A8, c8, rfl, _, _⟩ := own_slice ho8; have O8 := hide (Reads.of_own ho8); haveI : StpB (w.heap.size + 1 + 1) _ w8 := ⟨grown_belowT hg8 (by (try simp); omega) (fun q hq => (O7.out.lt q hq).1)⟩; clear ho8 hg8))
        | (go_at_call 7; (with_reducible refine (TF.out _ A8 c8 ?_).mono ?_); (focus (exact O8.out)); rintro e w2 ⟨b2, rfl, hb2, hs2⟩; obtain rfl := hs2 HSM.out; haveI : Stp _ w2 := ⟨hb2⟩; clear hb2 hs2)
        | fail)
    all_goals
      go_wp2_with fail
      go_meet
      case rel => exact ⟨rfl, inferInstance, inferInstance, blw⟩
  case rest =>
    obtain ⟨rfl, hb0, hb1, hbw⟩ := hcut
    obtain ⟨wa, rfl⟩ : ∃ wa, wa = wc := ⟨wc, rfl⟩
    haveI : Stp w wa := ⟨hbw⟩
    haveI := hb0
    haveI := hb1
    have hz0 := hb0.lt
    have hz1 := hb1.lt
    obtain ⟨b, hb⟩ : ∃ b, b = fewB L := ⟨_, rfl⟩
    rw [← hb]
    have HB := hide hb
    clear hb hb0 hb1 hbw
    cases b
    · go_wp2_with (go_at_call 8; (with_reducible refine (awake16_t _).mono ?_); rintro e w9 ⟨rfl, hb9⟩; haveI : Stp _ w9 := ⟨hb9⟩; clear hb9)
      go_ret
      exact ⟨rfl, blw⟩
    · have HF := hide (few_each HB.out.symm)
      by_cases hok : mayB q.1 q.2 = true ∧ q.2 ≤ 34359738367
      · have hmb : 1 ≤ q.1 ∧ q.1 ≤ 10 ∧ 0 < q.2 := by have := hok.1; unfold mayB at this; exact of_decide_eq_true this
        have TN := hide (fun W => new_s q.1 q.2 W hok.1 hok.2 hmb.1 hmb.2.1)
        clear hok hmb
        go_wp2_with fail
        (with_reducible refine (TN.out _).mono ?_)
        rintro e w3 ⟨x, C, rfl, hx, hC, hx0, hb3⟩
        haveI : Stp wa w3 := ⟨hb3⟩
        have HX0 := hide (hx [] (by simp))
        have HC0 := hide (fun j (hj : j ∈ C) => (Nat.le_trans (show w.heap.size + 2 ≤ wa.heap.size by omega) (hC j hj) : w.heap.size + 2 ≤ j))
        clear hx hC hb3
        go_wp2_with fail
        go_loopw [11] (fun i wr => ∃ (k : Nat) (C : List Nat) (m : En), k ≤ l.length ∧ i = .int .i64 k ∧ EnO wr C C x m ∧ (∀ j ∈ C, w.heap.size + 2 ≤ j) ∧ BoxAt wr (w.heap.size + 1) #[.int .i64 p.k, .int .i64 p.n, .int .u64 p.i, .int .i64 p.hp, .slice HA p.hs.length hc, .slice BA p.bs.length bc, .int .i64 p.an, .int .u64 p.ai, .int .u64 p.sq, .slice PA p.ps.length pc] 32 ∧ Below w.heap.size w wr) (fun i _ => l.length - (intOf i).toNat)
        case atStart => exact ⟨0, C, En.new q.1 q.2, Nat.zero_le _, rfl, by simpa using HX0.out, HC0.out, inferInstance, blw⟩
        case round =>
          obtain ⟨k, C, m, hk, rfl, hE, hC, hbp, hBw⟩ := hrel
          haveI : Blw w wr := ⟨hBw⟩
          haveI := hbp
          have hzr : w.heap.size + 2 ≤ wr.heap.size := by have := hbp.lt; omega
          haveI : LeN w.heap.size wr.heap.size := ⟨hBw.size⟩
          have HE := hide hE
          have HC := hide hC
          have HBW := hide hBw
          clear hE hC hbp hBw
          by_cases hlt : k < l.length
          · obtain ⟨s, hs, b, off, hbw, hcl⟩ : ∃ s, l[k]? = some s ∧ ∃ b off, A = some ⟨b, off, none⟩ ∧ ∀ j u, (sxc s)[j]? = some u → wr.cell? ⟨b, off + k * 14 + j, none⟩ = some u := by
              obtain ⟨b, off, s, h1, h2, h3, h4⟩ := Reads.atSx ((HS.out.below HBW.out).more HBW.out.size) hlt
              exact ⟨s, h3, b, off, h1, h4⟩
            subst hbw
            have hsm := List.mem_of_getElem? hs
            have hsl : s ∈ L := by rw [HL.out]; exact List.mem_append_left _ hsm
            obtain ⟨q1, q2, q3, q4, q5⟩ := HF.out.2 s hsl
            have hrd := (HM.out s hsm).1
            have hld := ldSx_at wr b (off + k * 14) s hcl
            have HR1 := hide hrd.n
            have HR2 := hide hrd.b
            have HR3 := hide hrd.p
            have HWN := hide hrd.wn
            have hn0 := hrd.now0
            have hn1 := hrd.now1
            have HC1 : Hid (∀ j ∈ C, w.heap.size ≤ j) := hide (fun j hj => by have := HC.out j hj; omega)
            have i0 : (0 : Int) ≤ (k : Int) := by omega
            have i1 : (k : Int) < (l.length : Int) := by omega
            clear hs hsm hsl hrd hcl
            have fin : ∀ (wN : World) (C' : List Nat), Tr C C' wr wN → (∀ j ∈ C', w.heap.size + 2 ≤ j) ∧ BoxAt wN (w.heap.size + 1) #[.int .i64 p.k, .int .i64 p.n, .int .u64 p.i, .int .i64 p.hp, .slice HA p.hs.length hc, .slice BA p.bs.length bc, .int .i64 p.an, .int .u64 p.ai, .int .u64 p.sq, .slice PA p.ps.length pc] 32 ∧ Below w.heap.size w wN := fun wN C' h2 =>
              ⟨h2.ge HC.out hzr, (h2.box (n := w.heap.size + 1) inferInstance (fun hm => by have := HC.out _ hm; omega)).1, HBW.out.trans (h2.g.below HBW.out.size HC1.out)⟩
            have FIN := hide fin
            have hd : s.d = 0 ∨ s.d = 1 ∨ (s.d = 2 ∨ s.d = 4) ∨ s.d = 3 ∨ (s.d ≠ 0 ∧ s.d ≠ 1 ∧ s.d ≠ 2 ∧ s.d ≠ 3 ∧ s.d ≠ 4) := by omega
            clear fin
            rcases hd with hd | hd | hd | hd | hd
            · rw [hd] at hld
              go_wp2_with fail
              refine (one_reliable (C := C) (HE.out.below blw) _ _ s.ns (ro_old HR1.out (by exact blw) HC1.out) (by omega)).mono ?_
              rintro e w4 ⟨rfl, hE4, hg4⟩
              go_wp2_with fail
              go_roundw
              case rel =>
                obtain ⟨f1, f2, f3⟩ := FIN.out _ _ ((Tr.bel (by exact blw)).trans (.of hg4))
                exact ⟨k + 1, _, _, by omega, by go_num, hE4, f1, f2, f3⟩
              case measure => simp [intOf]; omega
            · rw [hd] at hld
              go_wp2_with fail
              refine (one_send (C := C) (HE.out.below blw) _ hn0 hn1 _ _ s.bd (ro_old HR2.out (by exact blw) HC1.out) (by omega) _ _ s.ns (ro_old HR1.out (by exact blw) HC1.out) (by omega) HWN.out).mono ?_
              rintro e w4 ⟨v4, rfl, _, hE4, hg4⟩
              go_wp2_with fail
              go_roundw
              case rel =>
                obtain ⟨f1, f2, f3⟩ := FIN.out _ _ ((Tr.bel (by exact blw)).trans (.of hg4))
                exact ⟨k + 1, _, _, by omega, by go_num, hE4, f1, f2, f3⟩
              case measure => simp [intOf]; omega
            · have hx : ∀ W, Below w.heap.size w W → PkIn W s.x s.HA s.QA s.PA := fun W hb => PkIn.stp (a := w) ⟨HR3.out.h, HR3.out.b, HR3.out.p, by omega, by omega, by omega⟩ hb
              have HXI := hide hx
              clear hx
              rcases hd with hd | hd
              all_goals
                rw [hd] at hld
                go_wp2_with fail
                refine (one_take (C := C) (HE.out.below blw) _ hn0 hn1 s.x s.HA s.hc s.QA s.qc s.PA s.pc (HXI.out _ (by exact blw)) (ro_old HR3.out.b (by exact blw) HC1.out)).mono ?_
                rintro e w4 ⟨v4, C4, rfl, _, hE4, hg4⟩
                go_wp2_with fail
                go_roundw
                case rel =>
                  obtain ⟨f1, f2, f3⟩ := FIN.out _ _ ((Tr.bel (by exact blw)).trans hg4)
                  exact ⟨k + 1, _, _, by omega, by go_num, hE4, f1, f2, f3⟩
                case measure => simp [intOf]; omega
            · rw [hd] at hld
              go_wp2_with fail
              refine (one_tick (C := C) (HE.out.below blw) _ hn0 hn1).mono ?_
              rintro e w4 ⟨v4, rfl, _, hE4, hg4⟩
              go_wp2_with fail
              go_roundw
              case rel =>
                obtain ⟨f1, f2, f3⟩ := FIN.out _ _ ((Tr.bel (by exact blw)).trans (.of hg4))
                exact ⟨k + 1, _, _, by omega, by go_num, hE4, f1, f2, f3⟩
              case measure => simp [intOf]; omega
            · obtain ⟨d0, d1, d2, d3, d4⟩ := hd
              have e0 : decide (s.d = 0) = false := decide_eq_false d0
              have e1 : decide (s.d = 1) = false := decide_eq_false d1
              have e2 : decide (s.d = 2) = false := decide_eq_false d2
              have e3 : decide (s.d = 3) = false := decide_eq_false d3
              have e4 : decide (s.d = 4) = false := decide_eq_false d4
              have c0 : (s.d == 0) = false := by simpa using d0
              have c1 : (s.d == 1) = false := by simpa using d1
              have c2 : (s.d == 2) = false := by simpa using d2
              have c3 : (s.d == 3) = false := by simpa using d3
              have c4 : (s.d == 4) = false := by simpa using d4
              clear d0 d1 d2 d3 d4
              go_wp2_with fail
              go_roundw
              case rel =>
                refine ⟨k + 1, C, m, by omega, by go_num, HE.out.below blw, ?_⟩
                exact FIN.out _ C (Tr.bel (by exact blw))
              case measure => simp [intOf]; omega
          · have hke : k = l.length := by omega
            subst hke
            obtain ⟨q1, q2, q3, q4, q5⟩ := HF.out.2 (sxP p HA hc BA bc PA pc) (by rw [HL.out]; simp)
            have HX : Hid (∀ W, Below w.heap.size w W → PkIn W p HA BA PA) := hide (fun W hb => PkIn.stp (a := w) ⟨HP.out.h, HP.out.b, HP.out.p, by simpa using Nat.le_trans q2 (by omega), by simpa using Nat.le_trans q5 (by omega), by simpa using Nat.le_trans q3 (by omega)⟩ hb)
            have HC1 : Hid (∀ j ∈ C, w.heap.size ≤ j) := hide (fun j hj => by have := HC.out j hj; omega)
            clear q1 q2 q3 q4 q5
            go_wp2_with fail
            refine (one_take (C := C) (HE.out.below blw) _ now0 now1 p HA hc BA bc PA pc (HX.out _ (by exact blw)) (ro_old HP.out.b (by exact blw) HC1.out)).mono ?_
            rintro e w4 ⟨v4, C4, rfl, _, hE4, hg4⟩
            have t4 : Tr C C4 wr w4 := (Tr.bel (by exact blw)).trans hg4
            haveI : BoxAt w4 (w.heap.size + 1) #[.int .i64 p.k, .int .i64 p.n, .int .u64 p.i, .int .i64 p.hp, .slice HA p.hs.length hc, .slice BA p.bs.length bc, .int .i64 p.an, .int .u64 p.ai, .int .u64 p.sq, .slice PA p.ps.length pc] 32 := (t4.box (n := w.heap.size + 1) inferInstance (fun hm => by have := HC.out _ hm; omega)).1
            have HE4 := hide hE4
            have HC4 := hide (t4.ge HC1.out HBW.out.size)
            have HB4 := hide (HBW.out.trans (t4.g.below HBW.out.size HC1.out))
            haveI : Blw w w4 := ⟨HB4.out⟩
            clear hE4 hg4 t4
            go_wp2_with fail
            refine (one_take (C := C4) (HE4.out.below blw) _ now0 now1 p HA hc BA bc PA pc (HX.out _ (by exact blw)) (ro_old HP.out.b (by exact blw) HC4.out)).mono ?_
            rintro e w5 ⟨v5, C5, rfl, ha5, hE5, hg5⟩
            obtain ⟨A51, c51, A52, c52, A53, c53, rfl⟩ := ha5.form
            rw [take_twice]
            haveI : Blw w w5 := ⟨HB4.out.trans (((Tr.bel (by exact blw)).trans hg5).g.below HB4.out.size HC4.out)⟩
            clear ha5 hE5 hg5
            obtain ⟨n51, hn51⟩ : ∃ n, n = ((m.take now p).1.take now p).2.ps.length := ⟨_, rfl⟩
            obtain ⟨n53, hn53⟩ : ∃ n, n = ((m.take now p).1.take now p).2.fl.length := ⟨_, rfl⟩
            rw [← hn51, ← hn53]
            clear hn51 hn53
            go_wp2_with (go_at_call 8; (with_reducible refine (awake16_t _).mono ?_); rintro e w9 ⟨rfl, hb9⟩; haveI : Stp _ w9 := ⟨hb9⟩; clear hb9)
            go_ret
            exact ⟨rfl, blw⟩
      · have TN := hide (fun W => new_no q.1 q.2 W (fun h => by
          rcases Classical.not_and_iff_not_or_not.1 hok with h1 | h1
          · exact absurd h h1
          · omega))
        clear hok
        go_wp2_with fail
        (with_reducible refine (TN.out _).mono ?_)
        rintro e w3 ⟨rfl, hb3⟩
        haveI : Stp wa w3 := ⟨hb3⟩
        clear hb3
        go_wp2_with (go_at_call 8; (with_reducible refine (awake16_t _).mono ?_); rintro e w9 ⟨rfl, hb9⟩; haveI : Stp _ w9 := ⟨hb9⟩; clear hb9)
        go_ret
        exact ⟨rfl, blw⟩
end Go.Proofs.Ytniogmefbjfoaaa

/-
  A string's bytes appended to a row of the call's own; contract: (*code.Writer).Text.
-/
import Derived.Test.YtggmninbpnolgaaGreatTcW
import Derived.Lib.AppendStr
namespace Go.Proofs.YtggmninbpnolgaaGreat
set_option linter.unusedSimpArgs false
set_option linter.unusedVariables false
set_option linter.unusedSectionVars false
open Go.RowKit Go.Lib

section
variable {P : Program} {w : World}
theorem run_str_at (base : Nat) (t u ty e : TypeId) (i : TypeInfo) (ht : P.underlying t = some (.slice e)) (hu : P.underlying u = some .string) (hi : P.info? e = some i) (hz : i.zero = some (.int .u8 0))
    (hsize : i.size = 1) (hby : i.bytes = 1) (v : Value) (n : Nat) (xs : List Value) (hown : w.ownsRow base e 1 v n xs) (s : ByteArray)
    (h63 : n + s.size ≤ maxLen) (hbytes : n + s.size ≤ 140737488355328) (hbase : base ≤ w.heap.size) :
    ∃ v' w', (Builtin.append_ #[t, u] ty #[v, .string s]).run P w = .ok v' w' ∧ w'.ownsRow base e 1 v' (n + s.size) (xs ++ strCells s) ∧ w.grownBy w' v.ownBlock ∧ (v'.ownBlock = v.ownBlock ∨ v'.ownBlock = some w.heap.size) := by
  obtain ⟨v', w', hr, h2, h3, h4⟩ := run_append_own_string (P := P) w base t u ty e i ht hu hi hz hsize hby v n xs hown s h63 hbytes hbase
  refine ⟨v', w', hr, h2, h3, ?_⟩
  have hsmall : n + s.size ≤ 9223372036854775807 := by simp only [maxLen] at h63; omega
  have hxl : xs.length = n := by simpa using hown.1
  rcases hown.2 with ⟨rfl, rfl⟩ | ⟨g, cap, cur, rfl, hbg, hg, hnc, hcm, hcs, htake⟩
  · by_cases hm : s.size = 0
    · left; rw [h4.2 ⟨rfl, hm⟩]
    · right
      rw [run_append_nil_string (P := P) w t u ty e i (.int .u8 0) ht hu hi hz s (by omega) (by omega) (by rw [hby]; omega)] at hr
      injection hr with e1 e2
      rw [← e1]; rfl
  · by_cases hroom : n + s.size ≤ cap
    · left
      have hcs' : cur.size = cap := by simpa using hcs
      rw [run_append_room_string (P := P) w t u ty e i ht hu hi hsize g n cap cur hg s hroom (by omega)] at hr
      injection hr with e1 e2
      rw [← e1]; rfl
    · right
      have holds : ∀ j u, xs[j]? = some u → w.cell? ((⟨g, 0, none⟩ : Addr).add j) = some u := hown.cells (g := g) rfl
      rw [run_append_grow_string (P := P) w t u ty e i (.int .u8 0) ht hu hi hz ⟨g, 0, none⟩ n cap xs (by rw [hsize]; simpa using hxl) holds s (by omega) (by omega) (by rw [hby]; exact growslice_fits (by omega) (by omega))] at hr
      injection hr with e1 e2
      rw [← e1]; rfl
theorem wpList_str_at {ops : Array Oper} {rest : List Oper} {o : Oper} {a : Act} {Q : Exit → Act → World → Prop} (hgd : o.guard = none) (sl x : Operand) (t u : TypeId)
    (ho : o.op = .call { callee := .builtin .append, args := #[sl, x], argTypes := #[t, u] })
    (base : Nat) (e : TypeId) (E : ElemOk P t e 1 1) (hz : ∃ i, P.info? e = some i ∧ i.zero = some (.int .u8 0) ∧ i.size = 1 ∧ i.bytes = 1) (hu : P.underlying u = some .string)
    (v : Value) (n : Nat) (xs : List Value) (hs : a.eval sl = v) (hown : w.ownsRow base e 1 v n xs) (s : ByteArray) (hx : a.eval x = .string s)
    (h63 : n + s.size ≤ maxLen) (hbytes : n + s.size ≤ 140737488355328) (hbase : base ≤ w.heap.size)
    (h : ∀ v' w', w'.ownsRow base e 1 v' (n + s.size) (xs ++ strCells s) → w.grownBy w' v.ownBlock → (v'.ownBlock = v.ownBlock ∨ v'.ownBlock = some w.heap.size) → wpList P ops Q rest (a.put o.dst v') w') : wpList P ops Q (o :: rest) a w := by
  obtain ⟨i, hi, hz0, hz1, hz2⟩ := hz
  refine wpList_plain hgd fun K hK => ?_
  obtain ⟨v', w', hr, h2, h3, h4⟩ := run_str_at (P := P) (w := w) base t u o.type e i E.ht hu hi hz0 hz1 hz2 v n xs hown s h63 hbytes hbase
  unfold Oper.wp execOp
  simp only [ho, resolve, invoke, builtin, Sem.run_bind, Sem.run_pure, Result.andThen_ok, List.map_toArray, List.map_cons, List.map_nil, hs, hx, hr]
  exact hK _ _ (h v' w' h2 h3 h4)
end
theorem strCells_nums {bs : List Int} (h : bOK bs) : strCells (strOfNums bs) = bcs bs := by
  unfold strCells strOfNums bcs
  simp only [List.map_map]
  apply List.map_congr_left
  intro b hb
  obtain ⟨h0, h1⟩ := h b hb
  simp only [Function.comp, UInt8.toNat_ofNat']
  congr 1
  omega
theorem strOf_size (bs : List Int) : (strOfNums bs).size = bs.length := by simp [strOfNums, ByteArray.size]
theorem Tryz.zB : ∃ i, Tryz.prog.info? 5 = some i ∧ i.zero = some (.int .u8 0) ∧ i.size = 1 ∧ i.bytes = 1 := by
  obtain ⟨i0, h0, h1, h2, h3⟩ := info_parts (show (Tryz.prog.info? 5).map (fun i => (i.zero, i.size, i.bytes)) = some (some (.int .u8 0), 1, 1) by kernel_rfl)
  exact ⟨i0, h0, h1, h2, h3⟩
/-- a text's bytes -/
def txtB (t : List Int) : List Int := uintB (t.length : Int) ++ t
set_option maxRecDepth 100000 in
set_option maxHeartbeats 2000000 in
theorem text_s (g : Nat) (v : Value) (bs t : List Int) (w : World) (h : Wtr w g v bs) (hn : bs.length ≤ 500000) (ht : t.length ≤ 100000) (hok : bOK t) :
    Calls Tryz.prog 78 #[.pointer (some ⟨g, 0, none⟩), .string (strOfNums t)] w (RetWr g v w (bs ++ txtB t)) := by
  have TU := hide (fun W (h : Wtr W g v bs) => uint_s g v bs (t.length : Int) W h (by omega) (by omega) (by omega))
  have hs := strOf_size t
  have HS := hide hs
  have HC := hide (strCells_nums hok)
  have hul := uintB_len (t.length : Int)
  have HE := hide (show bs ++ txtB t = bs ++ uintB (t.length : Int) ++ t by simp [txtB])
  generalize hst : strOfNums t = st at HS HC hs ⊢
  generalize bs ++ txtB t = en at HE ⊢
  generalize uintB (t.length : Int) = ub at TU hul HE
  have hsz : (st.size : Int) = (t.length : Int) := by rw [hs]
  haveI : Wr w g v bs := ⟨h⟩
  clear h hs hst hok
  go_enter Tryz.func78, Tryz.ntmps78
  go_wp2_with fail
  (with_reducible refine (TU.out _ Wr.h).mono ?_)
  rintro e w1 ⟨rfl, v1, hw, hs⟩
  have HW := hide hw
  have HSt := hide hs
  haveI := hw.boxAt
  have lb1 : (bs ++ ub).length ≤ 600000 := by rw [List.length_append]; omega
  generalize hb1 : bs ++ ub = b1 at HW lb1
  have HB1 := hide hb1
  clear hw hs TU hsz hb1
  go_wp2_with (at_builtin; refine wpList_str_at (by rfl) (.tmp 15) (.tmp 16) 26 9 (by rfl) (g + 1) 5 Tryz.okB Tryz.zB Tryz.underlying9 v1 b1.length (bcs b1) (by rfl) HW.out.own st (by rfl) (by rw [HS.out]; unfold maxLen; omega) (by rw [HS.out]; omega) HW.out.lt ?_; intro v2 w2 ho hg ha; rw [HS.out, HC.out] at ho; have HP := hide (HW.out.put (ns := t) ho hg ha); haveI : BoxAt w2 g #[v1] 79 := ⟨by rw [hg.block g HW.out.lt (fun e => HW.out.row_ne e.symm)]; exact HW.out.box⟩; obtain ⟨A2, c2, rfl, _, _⟩ := own_slice ho; clear ho hg ha)
  go_wp2
  go_end0
  exact ⟨rfl, _, by rw [HE.out, HB1.out]; exact HP.out.1, HSt.out.trans HP.out.2⟩
end Go.Proofs.YtggmninbpnolgaaGreat

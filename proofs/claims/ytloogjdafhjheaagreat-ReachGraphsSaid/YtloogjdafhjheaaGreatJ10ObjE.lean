/- Walks of obj.number, hash. The walk of obj.Encode. The walk of obj.Encode: trees. -/
import Derived.Test.YtloogjdafhjheaaGreatObjQ
import Derived.Test.YtloogjdafhjheaaGreatJ9Wire
import Derived.Test.YtloogjdafhjheaaGreatJ2ShaW
namespace Go.Proofs.YtloogjdafhjheaaGreat
open Go.RowKit Go.Mx

theorem putL_9 {n : Nat} (h : n ≤ 72057594037927936) : (putL n).length ≤ 9 := by
  have := putL_le 9 n (by have : (128 : Nat) ^ 9 = 9223372036854775808 := by decide
                          omega)
  omega

theorem put_ok (n : Nat) (w : World) (hn : n ≤ 72057594037927936) : Calls Tryz.prog 61 #[.int .i64 (n : Int)] w fun e w' => ∃ v, e = .returned (.tuple #[v, .int .i64 0]) ∧ St w w' [(⟨v, 5, 1, (putL n).length, bs (putL n)⟩ : Row)] [] :=
  (Put_any (n : Int) w (WalkArith.wf_i64 (by omega : -9223372036854775808 ≤ (n : Int) ∧ (n : Int) ≤ 9223372036854775807))).mono fun e w' h => by
    unfold PutPost at h
    rw [if_neg (by omega)] at h
    exact h

theorem number_go {w0 w : World} {R : List Row} {Q : List Rd} (v : Value) (l : List UInt8) (n : Nat) (hs : St w0 w ((⟨v, 5, 1, (l).length, bs (l)⟩ : Row) :: R) Q) (hn : n ≤ 72057594037927936) (hl : l.length ≤ 70368744177664) :
    Calls Tryz.prog 40 #[v, .int .i64 (n : Int)] w fun e w' => ∃ v', e = .returned v' ∧ St w0 w' ((⟨v', 5, 1, (l ++ putL n).length, bs (l ++ putL n)⟩ : Row) :: R) Q := by
  have h9 := putL_9 hn
  have HP := Mx.hid (fun wx => put_ok n wx hn)
  generalize putL n = p at *
  generalize (n : Int) = nn at *
  clear hn
  go_enter Tryz.func40, Tryz.ntmps40
  go_wp2_with (first | (go_at_call 61; refine (HP.out _).mono ?_; rintro e w1 ⟨x, rfl, hk⟩; have hs1 := hs.call1 hk) | (at_builtin; refine wpl_app rfl _ _ 51 rfl Tryz.elU8 hs1.swap rfl (by exact hs1.sl0) (bs_one _) (by omega) ?_; intro v2 w2 hs2 _))
  go_ret
  exact ⟨_, rfl, hs2.swap.tail.cast (by simp) (by simp [bs_app])⟩

theorem hash_go {w0 w : World} {R : List Row} {Q : List Rd} (v : Value) (l : List UInt8) (s : ByteArray) (hs : St w0 w ((⟨v, 5, 1, (l).length, bs (l)⟩ : Row) :: R) Q) (hz : s.size ≤ 140737488351232) (hv : validB s = true) (hl : l.length ≤ 70368744177664) :
    Calls Tryz.prog 41 #[v, .string s] w fun e w' => ∃ v', e = .returned v' ∧ St w0 w' ((⟨v', 5, 1, (l ++ rawL s).length, bs (l ++ rawL s)⟩ : Row) :: R) Q := by
  have h9 := raw_len hv
  have HP : Hid (∀ wx, Calls Tryz.prog 62 #[.string s] wx fun e w' => ∃ v b, e = .returned (.tuple #[v, .bool b]) ∧ St wx w' [(⟨v, 5, 1, (rawL s).length, bs (rawL s)⟩ : Row)] []) := fun wx => (sunhex_any s wx (by omega)).mono fun e w' ⟨v, h1, h2⟩ => ⟨v, _, h1, h2⟩
  generalize rawL s = p at *
  clear hv
  go_enter Tryz.func41, Tryz.ntmps41
  go_wp2_with (first | (go_at_call 62; refine (HP.out _).mono ?_; rintro e w1 ⟨x, b, rfl, hk⟩; have hs1 := hs.call1 hk) | (at_builtin; refine wpl_app rfl _ _ 51 rfl Tryz.elU8 hs1.swap rfl (by exact hs1.sl0) (bs_one _) (by omega) ?_; intro v2 w2 hs2 _))
  go_ret
  exact ⟨_, rfl, hs2.swap.tail.cast (by simp) (by simp [bs_app])⟩
end Go.Proofs.YtloogjdafhjheaaGreat

namespace Go.Mx
open Go Go.RowKit
theorem u8_eq (x y : UInt8) (h : x.toNat = y.toNat) : x = y := UInt8.toNat_inj.1 h
/-- append to the head row, from a string, as one step of a region that draws. -/
theorem step_app_str {P : Program} {w0 w : World} {R : List Row} {Qs : List Rd} {ops : Array Oper} {o : Oper} {a : Act} {K : Act → World → Prop} {Q : Exit → Act → World → Prop} {E : Prop} (hgd : o.guard = none) (s x : Operand) (t u : TypeId)
    (ho : o.op = .call { callee := .builtin .append, args := #[s, x], argTypes := #[t, u] })
    {v : Value} {e : TypeId} {bytes n : Nat} (El : El P t e 1 bytes) (hu : P.underlying u = some .string) {xs : List Value} (hst : St w0 w (⟨v, e, 1, n, xs⟩ :: R) Qs) (hs : a.eval s = v)
    {str : ByteArray} (hx : a.eval x = .string str) (hbytes : (n + str.size) * bytes ≤ 140737488355328)
    (h : ∀ v' w', St w0 w' (⟨v', e, 1, n + str.size, xs ++ bs str.data.toList⟩ :: R) Qs → (v' = .slice none 0 0 ↔ v = .slice none 0 0 ∧ str.size = 0) → K (a.put o.dst v') w') :
    if Region.wanted o (yielded ops a.tmps) = true then Oper.wp P o a w K Q else E := by
  have hw : Region.wanted o (yielded ops a.tmps) = true := by simp [Region.wanted, hgd]
  rw [if_pos hw]
  obtain ⟨i, z, h2, h3, h4, h5, h6⟩ := El.hi
  have hf : ∀ w' : World, w'.heap = w.heap → (Builtin.firstCells 1 str.size (.string str)).run P w' = .ok (bs str.data.toList).toArray w' := by
    intro w' _
    have he : str.extract 0 str.size = str := by
      apply ByteArray.ext
      rw [ByteArray.data_extract, show str.size = str.data.size from rfl, Array.extract_size]
    simp only [Builtin.firstCells, Sem.run_pure, he]
    congr 1
    apply Array.ext'
    simp [bs]
  obtain ⟨v', w', hr, g2, g3, g4, g5⟩ := run_append_src (P := P) w0.heap.size t u o.type e i z 1 bytes El.ht .string hu (.inl rfl) h2 h3 h4 h5 h6 v n xs (hst.own _ (List.mem_cons_self ..)) (.string str) str.size
    (bs str.data.toList) (by rw [bs_len, Array.length_toList, Nat.mul_one]; rfl) (fun w' => by simp [Builtin.lenOf]) hf (bs_one _) (len_of_bytes El.hb hbytes) hbytes hst.size
  unfold Oper.wp execOp
  simp only [ho, resolve, invoke, builtin, Sem.run_bind, Sem.run_pure, Result.andThen_ok, List.map_toArray, List.map_cons, List.map_nil, hs, hx, hr]
  exact h v' w' (hst.turn g2 g3 g4) g5
end Go.Mx
namespace Go.Proofs.YtloogjdafhjheaaGreat
open Go.RowKit Go.Mx

/-- What Encode leaves. -/
def EncPost (w : World) (o : Ob) (e : Ending) (w' : World) : Prop :=
  if mayB o = true then ∃ v, e = .returned (.tuple #[v, .int .i64 0]) ∧ St w w' [(⟨v, 5, 1, (encL o).length, bs (encL o)⟩ : Row)] [] else e = .returned (.tuple #[.slice none 0 0, .int .i64 1]) ∧ St w w' [] []

set_option maxRecDepth 100000 in
set_option maxHeartbeats 2000000 in
theorem enc_bad (dv iv pv : Value) (o : Ob) (w : World) (h : OB w dv iv pv o) (hz : OZ o) (hm : mayB o = false) :
    Calls Tryz.prog 18 #[OV dv iv pv o] w fun e w' => e = .returned (.tuple #[.slice none 0 0, .int .i64 1]) ∧ St w w' [] [] := by
  have HMY := Mx.hid (fun wx (hs : St w wx [] []) => may_any dv iv pv o wx (OB.old hs h) hz)
  rw [hm] at HMY
  obtain ⟨d1, d2, rfl, g1, g2, _⟩ := h.d
  obtain ⟨i1, i2, rfl, g3, g4, _⟩ := h.i
  obtain ⟨p1, p2, rfl, g5, g6, _⟩ := h.p
  clear h hz hm
  obtain ⟨kind, data, items, tree, parents, stamp, author, msg⟩ := o
  simp only [OV] at *
  go_enter Tryz.func18, Tryz.ntmps18
  go_wp2_with (first | (((with_reducible show wpList _ _ _ _ _ _); refine wpl_box rfl 56 _ rfl (St.refl w) ([.int .i64 kind, .slice d1 data.length d2, .slice i1 items.length i2, .string tree, .slice p1 parents.length p2, .int .i64 stamp, .int .i64 author, .string msg]) (by rfl) ?_; intro gx wx hsx); (have x0 := hsx.cell (j := 0) rfl; have x1 := hsx.cell (j := 1) rfl; have x2 := hsx.cell (j := 2) rfl; have x3 := hsx.cell (j := 3) rfl; have x4 := hsx.cell (j := 4) rfl; have x5 := hsx.cell (j := 5) rfl; have x6 := hsx.cell (j := 6) rfl; have x7 := hsx.cell (j := 7) rfl)) | ((with_reducible show wpList _ _ _ _ _ _); refine wpl_loadA rfl 56 _ rfl Tryz.aObj (gx) (0) rfl ([.int .i64 kind, .slice d1 data.length d2, .slice i1 items.length i2, .string tree, .slice p1 parents.length p2, .int .i64 stamp, .int .i64 author, .string msg]) rfl (fun i u h => by rw [Nat.zero_add]; exact hsx.rcell (List.mem_cons_self ..) h) ?_) | (go_at_call 39; refine (HMY.out _ hsx.bare).mono ?_; rintro e w2 ⟨rfl, hk⟩; replace hsx := hsx.call0 hk; (have x0 := hsx.cell (j := 0) rfl; have x1 := hsx.cell (j := 1) rfl; have x2 := hsx.cell (j := 2) rfl; have x3 := hsx.cell (j := 3) rfl; have x4 := hsx.cell (j := 4) rfl; have x5 := hsx.cell (j := 5) rfl; have x6 := hsx.cell (j := 6) rfl; have x7 := hsx.cell (j := 7) rfl)) | (((with_reducible show wpList _ _ _ _ _ _); refine wpl_lit1 rfl 51 _ rfl Tryz.elU8 hsx (.int .u8 kind) (by rfl) (by rfl) ?_; intro gl w3 hs3); have x0 := hs3.rcell (j := 0) (List.mem_cons_of_mem _ (List.mem_cons_self ..)) rfl; have x1 := hs3.rcell (j := 1) (List.mem_cons_of_mem _ (List.mem_cons_self ..)) rfl; have x2 := hs3.rcell (j := 2) (List.mem_cons_of_mem _ (List.mem_cons_self ..)) rfl; have x3 := hs3.rcell (j := 3) (List.mem_cons_of_mem _ (List.mem_cons_self ..)) rfl; have x4 := hs3.rcell (j := 4) (List.mem_cons_of_mem _ (List.mem_cons_self ..)) rfl; have x5 := hs3.rcell (j := 5) (List.mem_cons_of_mem _ (List.mem_cons_self ..)) rfl; have x6 := hs3.rcell (j := 6) (List.mem_cons_of_mem _ (List.mem_cons_self ..)) rfl; have x7 := hs3.rcell (j := 7) (List.mem_cons_of_mem _ (List.mem_cons_self ..)) rfl) | fail)
  go_ret2
  exact ⟨rfl, hsx.bare⟩

set_option maxRecDepth 100000 in
set_option maxHeartbeats 2000000 in
theorem enc_blob (dv iv pv : Value) (o : Ob) (w : World) (h : OB w dv iv pv o) (hz : OZ o) (hm : mayB o = true) (hk : o.kind = 1) :
    Calls Tryz.prog 18 #[OV dv iv pv o] w fun e w' => ∃ v, e = .returned (.tuple #[v, .int .i64 0]) ∧ St w w' [(⟨v, 5, 1, (encL o).length, bs (encL o)⟩ : Row)] [] := by
  have HMY := Mx.hid (fun wx (hs : St w wx [] []) => may_any dv iv pv o wx (OB.old hs h) hz)
  have hb : o.data.length ≤ 20000 := by
    unfold mayB at hm
    rw [if_pos hk] at hm
    simp only [Bool.and_eq_true, decide_eq_true_eq] at hm
    exact hm.1.1
  rw [hm] at HMY
  have HE := Mx.hid (show encL o = 1 :: o.data by unfold encL; rw [if_pos hk])
  have HD := Mx.hid h.d
  obtain ⟨d1, d2, rfl, g1, g2, _⟩ := h.d
  obtain ⟨i1, i2, rfl, g3, g4, _⟩ := h.i
  obtain ⟨p1, p2, rfl, g5, g6, _⟩ := h.p
  clear h hz hm
  obtain ⟨kind, data, items, tree, parents, stamp, author, msg⟩ := o
  simp only [OV] at *
  subst hk
  go_enter Tryz.func18, Tryz.ntmps18
  go_wp2_with (first | (((with_reducible show wpList _ _ _ _ _ _); refine wpl_box rfl 56 _ rfl (St.refl w) ([.int .i64 1, .slice d1 data.length d2, .slice i1 items.length i2, .string tree, .slice p1 parents.length p2, .int .i64 stamp, .int .i64 author, .string msg]) (by rfl) ?_; intro gx wx hsx); (have x0 := hsx.cell (j := 0) rfl; have x1 := hsx.cell (j := 1) rfl; have x2 := hsx.cell (j := 2) rfl; have x3 := hsx.cell (j := 3) rfl; have x4 := hsx.cell (j := 4) rfl; have x5 := hsx.cell (j := 5) rfl; have x6 := hsx.cell (j := 6) rfl; have x7 := hsx.cell (j := 7) rfl)) | ((with_reducible show wpList _ _ _ _ _ _); refine wpl_loadA rfl 56 _ rfl Tryz.aObj (gx) (0) rfl ([.int .i64 1, .slice d1 data.length d2, .slice i1 items.length i2, .string tree, .slice p1 parents.length p2, .int .i64 stamp, .int .i64 author, .string msg]) rfl (fun i u h => by rw [Nat.zero_add]; exact hsx.rcell (List.mem_cons_self ..) h) ?_) | (go_at_call 39; refine (HMY.out _ hsx.bare).mono ?_; rintro e w2 ⟨rfl, hk⟩; replace hsx := hsx.call0 hk; (have x0 := hsx.cell (j := 0) rfl; have x1 := hsx.cell (j := 1) rfl; have x2 := hsx.cell (j := 2) rfl; have x3 := hsx.cell (j := 3) rfl; have x4 := hsx.cell (j := 4) rfl; have x5 := hsx.cell (j := 5) rfl; have x6 := hsx.cell (j := 6) rfl; have x7 := hsx.cell (j := 7) rfl)) | (((with_reducible show wpList _ _ _ _ _ _); refine wpl_lit1 rfl 51 _ rfl Tryz.elU8 hsx (.int .u8 1) (by rfl) (by rfl) ?_; intro gl w3 hs3); have x0 := hs3.rcell (j := 0) (List.mem_cons_of_mem _ (List.mem_cons_self ..)) rfl; have x1 := hs3.rcell (j := 1) (List.mem_cons_of_mem _ (List.mem_cons_self ..)) rfl; have x2 := hs3.rcell (j := 2) (List.mem_cons_of_mem _ (List.mem_cons_self ..)) rfl; have x3 := hs3.rcell (j := 3) (List.mem_cons_of_mem _ (List.mem_cons_self ..)) rfl; have x4 := hs3.rcell (j := 4) (List.mem_cons_of_mem _ (List.mem_cons_self ..)) rfl; have x5 := hs3.rcell (j := 5) (List.mem_cons_of_mem _ (List.mem_cons_self ..)) rfl; have x6 := hs3.rcell (j := 6) (List.mem_cons_of_mem _ (List.mem_cons_self ..)) rfl; have x7 := hs3.rcell (j := 7) (List.mem_cons_of_mem _ (List.mem_cons_self ..)) rfl) | (at_builtin; refine wpl_app rfl _ _ 51 rfl Tryz.elU8 hs3 rfl (by exact hs3.old HD.out) (bs_one _) (by omega) ?_; intro v9 w9 hs9 _))
  go_ret2
  exact ⟨_, rfl, by rw [HE.out]; exact hs9.head.cast (by rw [List.length_cons]; omega) rfl⟩
end Go.Proofs.YtloogjdafhjheaaGreat

namespace Go.Proofs.YtloogjdafhjheaaGreat
open Go.RowKit Go.Mx

set_option maxRecDepth 100000 in
set_option maxHeartbeats 4000000 in
theorem enc_tree (dv iv pv : Value) (o : Ob) (w : World) (h : OB w dv iv pv o) (hz : OZ o) (hm : mayB o = true) (hk : o.kind = 2) :
    Calls Tryz.prog 18 #[OV dv iv pv o] w fun e w' => ∃ v, e = .returned (.tuple #[v, .int .i64 0]) ∧ St w w' [(⟨v, 5, 1, (encL o).length, bs (encL o)⟩ : Row)] [] := by
  have HMY := Mx.hid (fun wx (hs : St w wx [] []) => may_any dv iv pv o wx (OB.old hs h) hz)
  have hb : itemsB o.items = true := by
    unfold mayB at hm
    rw [if_neg (by omega), if_pos hk] at hm
    simp only [Bool.and_eq_true, decide_eq_true_eq] at hm
    exact hm.1.2
  have hlen : o.items.length ≤ 256 := by
    unfold itemsB at hb
    simp only [Bool.and_eq_true, decide_eq_true_eq] at hb
    exact hb.2
  have HB := Mx.hid (fun (i : Nat) (hi : i < o.items.length) => (show itemB o.items[i] = true by
    unfold itemsB at hb
    simp only [Bool.and_eq_true, decide_eq_true_eq] at hb
    exact List.all_eq_true.1 hb.1.1 _ (List.getElem_mem hi)))
  rw [hm] at HMY
  have HE := Mx.hid (show encL o = 2 :: (putL o.items.length ++ o.items.flatMap itemL) by unfold encL; rw [if_neg (by omega), if_pos hk])
  have HZ := Mx.hid (fun (i : Nat) (hi : i < o.items.length) => hz.it o.items[i] (List.getElem_mem hi))
  obtain ⟨d1, d2, rfl, g1, g2, _⟩ := h.d
  obtain ⟨i1, i2, blk, off, hiv, g3, g4, _, hcell⟩ := h.i.anyC
  have HC := Mx.hid (fun (i : Nat) (hi : i < o.items.length) => (show i1 = some ⟨blk, off, none⟩ ∧ w.cell? ⟨blk, off + i * 3, none⟩ = some (.int .i64 o.items[i].1) ∧ w.cell? ⟨blk, off + i * 3 + 1, none⟩ = some (.string o.items[i].2.1) ∧ w.cell? ⟨blk, off + i * 3 + 2, none⟩ = some (.string o.items[i].2.2) from by
    have g0 := hcell (i * 3 + 0) _ ((flat_get (k := 3) (fun _ => rfl) o.items (by omega) hi).trans (show (itmRow o.items[i])[0]? = some (.int .i64 o.items[i].1) from rfl))
    have g1 := hcell (i * 3 + 1) _ ((flat_get (k := 3) (fun _ => rfl) o.items (by omega) hi).trans (show (itmRow o.items[i])[1]? = some (.string o.items[i].2.1) from rfl))
    have g2 := hcell (i * 3 + 2) _ ((flat_get (k := 3) (fun _ => rfl) o.items (by omega) hi).trans (show (itmRow o.items[i])[2]? = some (.string o.items[i].2.2) from rfl))
    exact ⟨g0.1, g0.2, g1.2, g2.2⟩))
  subst hiv
  obtain ⟨p1, p2, rfl, g5, g6, _⟩ := h.p
  clear h hz hm hcell hb
  obtain ⟨kind, data, items, tree, parents, stamp, author, msg⟩ := o
  simp only [OV] at *
  subst hk
  have h9 := putL_9 (show items.length ≤ 72057594037927936 by omega)
  go_enter Tryz.func18, Tryz.ntmps18
  go_wp2_with (first | (((with_reducible show wpList _ _ _ _ _ _); refine wpl_box rfl 56 _ rfl (St.refl w) ([.int .i64 2, .slice d1 data.length d2, .slice i1 items.length i2, .string tree, .slice p1 parents.length p2, .int .i64 stamp, .int .i64 author, .string msg]) (by rfl) ?_; intro gx wx hsx); (have x0 := hsx.cell (j := 0) rfl; have x1 := hsx.cell (j := 1) rfl; have x2 := hsx.cell (j := 2) rfl; have x3 := hsx.cell (j := 3) rfl; have x4 := hsx.cell (j := 4) rfl; have x5 := hsx.cell (j := 5) rfl; have x6 := hsx.cell (j := 6) rfl; have x7 := hsx.cell (j := 7) rfl)) | ((with_reducible show wpList _ _ _ _ _ _); refine wpl_loadA rfl 56 _ rfl Tryz.aObj (gx) (0) rfl ([.int .i64 2, .slice d1 data.length d2, .slice i1 items.length i2, .string tree, .slice p1 parents.length p2, .int .i64 stamp, .int .i64 author, .string msg]) rfl (fun i u h => by rw [Nat.zero_add]; exact hsx.rcell (List.mem_cons_self ..) h) ?_) | (go_at_call 39; refine (HMY.out _ hsx.bare).mono ?_; rintro e w2 ⟨rfl, hk⟩; replace hsx := hsx.call0 hk; (have x0 := hsx.cell (j := 0) rfl; have x1 := hsx.cell (j := 1) rfl; have x2 := hsx.cell (j := 2) rfl; have x3 := hsx.cell (j := 3) rfl; have x4 := hsx.cell (j := 4) rfl; have x5 := hsx.cell (j := 5) rfl; have x6 := hsx.cell (j := 6) rfl; have x7 := hsx.cell (j := 7) rfl)) | (((with_reducible show wpList _ _ _ _ _ _); refine wpl_lit1 rfl 51 _ rfl Tryz.elU8 hsx (.int .u8 2) (by rfl) (by rfl) ?_; intro gl w3 hs3); have x0 := hs3.rcell (j := 0) (List.mem_cons_of_mem _ (List.mem_cons_self ..)) rfl; have x1 := hs3.rcell (j := 1) (List.mem_cons_of_mem _ (List.mem_cons_self ..)) rfl; have x2 := hs3.rcell (j := 2) (List.mem_cons_of_mem _ (List.mem_cons_self ..)) rfl; have x3 := hs3.rcell (j := 3) (List.mem_cons_of_mem _ (List.mem_cons_self ..)) rfl; have x4 := hs3.rcell (j := 4) (List.mem_cons_of_mem _ (List.mem_cons_self ..)) rfl; have x5 := hs3.rcell (j := 5) (List.mem_cons_of_mem _ (List.mem_cons_self ..)) rfl; have x6 := hs3.rcell (j := 6) (List.mem_cons_of_mem _ (List.mem_cons_self ..)) rfl; have x7 := hs3.rcell (j := 7) (List.mem_cons_of_mem _ (List.mem_cons_self ..)) rfl) | ((go_at_call 40; refine (number_go _ ([2]) (items.length) (hs3) (by omega) (by simp)).mono ?_; rintro e w4 ⟨v4, rfl, hs4⟩); have x0 := hs4.rcell (j := 0) (List.mem_cons_of_mem _ (List.mem_cons_self ..)) rfl; have x2 := hs4.rcell (j := 2) (List.mem_cons_of_mem _ (List.mem_cons_self ..)) rfl))
  go_loopw [4, 34] (fun x y wr => ∃ (i : Nat) (acc : List UInt8), i ≤ items.length ∧ y = .int .i64 i ∧ acc.length ≤ 10 + 106 * i ∧ Hid (acc = 2 :: (putL items.length ++ (items.take i).flatMap itemL)) ∧ St w wr [(⟨x, 5, 1, (acc).length, bs (acc)⟩ : Row), (⟨.slice (some ⟨gx, 0, none⟩) 1 1, 56, 8, 1, [.int .i64 2, .slice d1 data.length d2, .slice i1 items.length i2, .string tree, .slice p1 parents.length p2, .int .i64 stamp, .int .i64 author, .string msg]⟩ : Row)] []) (fun _ y _ => items.length - (intOf y).toNat)
  case atStart => exact ⟨0, [2] ++ putL items.length, by omega, rfl, by simp; omega, by simp [Hid], hs4⟩
  case round =>
    obtain ⟨i, acc, hi, rfl, hac, He, hs⟩ := hrel
    by_cases hlt : i < items.length
    · obtain ⟨rfl, c0, c1, c2⟩ := HC.out i hlt
      have c0 := hs.keep c0
      have c1 := hs.keep c1
      have c2 := hs.keep c2
      obtain ⟨z1, z2, z3, z4⟩ := HZ.out i hlt
      have hib := HB.out i hlt
      have HT := Mx.hid (show (items.take (i + 1)).flatMap itemL = (items.take i).flatMap itemL ++ itemL items[i] by rw [List.take_succ_eq_append_getElem hlt, List.flatMap_append]; simp)
      generalize items[i] = y at *
      obtain ⟨m, nme, hsh⟩ := y
      simp only [itemB, Bool.and_eq_true, decide_eq_true_eq] at hib
      obtain ⟨⟨hm, hn⟩, hv⟩ := hib
      simp only [] at *
      have hsz : nme.size ≤ 64 := by
        simp only [nameB, Bool.and_eq_true, decide_eq_true_eq] at hn
        have := hn.2.2.1
        simpa [bL] using this
      have h9b := putL_9 (show nme.size ≤ 72057594037927936 by omega)
      have hm8 : m % 256 = m := by omega
      have h32 := raw_len hv
      have Hm1 := Mx.hid (show [Value.int .u8 (IntKind.u8.wrap m)] = bs [UInt8.ofNat m.toNat] by
        rw [IntWalk.u8_in m (by omega)]
        show _ = [Value.int .u8 _]
        rw [UInt8.toNat_ofNat']; congr 2; omega)
      have Hv := Mx.hid hv
      have H32 := Mx.hid h32
      clear hn hv h32 hm
      go_wp2_with fail
      have hsy := hs.madeAt #[.int .i64 m, .string nme, .string hsh] 88 3 1 wr.heap.size (by rfl) (by simp [maxLen]) rfl
      generalize wr.alloc (.cells #[.int .i64 m, .string nme, .string hsh] 88) = wy at hsy ⊢
      generalize wr.heap.size = gy at hsy ⊢
      have y0 : wy.cell? ⟨gy, 0, none⟩ = some (.int .i64 m) := hsy.cell rfl
      have y1 : wy.cell? ⟨gy, 1, none⟩ = some (.string nme) := hsy.cell rfl
      have y2 : wy.cell? ⟨gy, 2, none⟩ = some (.string hsh) := hsy.cell rfl
      go_region_held3 (fun W => W.cell? ⟨gy, 0, none⟩ = some (.int .i64 m) ∧ W.cell? ⟨gy, 1, none⟩ = some (.string nme) ∧ W.cell? ⟨gy, 2, none⟩ = some (.string hsh)) (first | exact ⟨hs2.rcell (j := 0) (List.mem_cons_of_mem _ (List.mem_cons_self ..)) rfl, hs2.rcell (j := 1) (List.mem_cons_of_mem _ (List.mem_cons_self ..)) rfl, hs2.rcell (j := 2) (List.mem_cons_of_mem _ (List.mem_cons_self ..)) rfl⟩ | exact ⟨hs1.rcell (j := 0) (List.mem_cons_of_mem _ (List.mem_cons_self ..)) rfl, hs1.rcell (j := 1) (List.mem_cons_of_mem _ (List.mem_cons_self ..)) rfl, hs1.rcell (j := 2) (List.mem_cons_of_mem _ (List.mem_cons_self ..)) rfl⟩ | go_keep) (first | (refine step_app rfl _ _ 51 rfl Tryz.elU8 (by exact hsy.drew.swap.alloc _) rfl (by exact Sl.one _ _ _) (by intro u hu; simp at hu; subst hu; rfl) (by omega) ?_; intro v1 w1 hs1 _) | (go_at_call 40; refine (number_go v1 (acc ++ [UInt8.ofNat m.toNat]) (nme.size) (hs1.cast (by simp) (by rw [bs_app, Hm1.out])) (by omega) (by simp; omega)).mono ?_; rintro e w2 ⟨v2, rfl, hs2⟩))
      go_wp2_with fail
      have HL2 := Mx.hid (show (acc ++ [UInt8.ofNat m.toNat] ++ putL nme.size).length ≤ acc.length + 10 by simp; omega)
      generalize hA2 : acc ++ [UInt8.ofNat m.toNat] ++ putL nme.size = A2 at *
      have HA2 := Mx.hid hA2
      have hl2 := HL2.out
      clear hA2
      go_region_held3 (fun W => W.cell? ⟨gy, 1, none⟩ = some (.string nme) ∧ W.cell? ⟨gy, 2, none⟩ = some (.string hsh)) (first | exact ⟨hs4.rcell (j := 1) (List.mem_cons_of_mem _ (List.mem_cons_self ..)) rfl, hs4.rcell (j := 2) (List.mem_cons_of_mem _ (List.mem_cons_self ..)) rfl⟩ | exact ⟨hs3.rcell (j := 1) (List.mem_cons_of_mem _ (List.mem_cons_self ..)) rfl, hs3.rcell (j := 2) (List.mem_cons_of_mem _ (List.mem_cons_self ..)) rfl⟩ | exact ⟨hs2.rcell (j := 1) (List.mem_cons_of_mem _ (List.mem_cons_self ..)) rfl, hs2.rcell (j := 2) (List.mem_cons_of_mem _ (List.mem_cons_self ..)) rfl⟩ | go_keep) (first | (refine step_app_str rfl _ _ 51 9 rfl Tryz.elU8 Tryz.underlying9 (by exact hs2.drew) rfl rfl (by omega) ?_; intro v3 w3 hs3 _) | (go_at_call 41; refine (hash_go v3 (A2 ++ bL nme) hsh (hs3.cast (by simp [bL]) (by rw [bs_app]; rfl)) (z2) (Hv.out) (by simp [bL]; omega)).mono ?_; rintro e w4 ⟨v4, rfl, hs4⟩))
      go_wp2_with fail
      case roundEnd => exact ⟨⟨i + 1, A2 ++ bL nme ++ rawL hsh, by omega, by go_num, by have := H32.out; simp [bL]; omega, by rw [HT.out, ← HA2.out, He.out]; simp [itemL, Hid], hs4.swap.tail⟩, by simp [intOf]; omega⟩
    · have HF := Mx.hid (show encL ⟨2, data, items, tree, parents, stamp, author, msg⟩ = acc by
        rw [HE.out, He.out, List.take_of_length_le (by omega)])
      go_wp2_with fail
      go_ret2
      exact ⟨_, rfl, by rw [HF.out]; exact hs.head⟩
end Go.Proofs.YtloogjdafhjheaaGreat

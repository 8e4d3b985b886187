/- The walk of obj.Encode: trees. The walk of obj.Encode: commits; Encode whole. Walks of the source that an object is read from: take, one, number, hash. The walk of obj.read: another kind, a blob. The walk of obj.read: a tree. The walk of obj.read: a commit; read whole. The walk of obj.Decode. Walks of slices.Equal over texts and items; obj.Refs, Same. -/
import Derived.Test.YtlfdnlomlbbicaaJ8ObjE
import Derived.Test.YtlfdnlomlbbicaaClone
import Derived.Test.YtlfdnlomlbbicaaHeld
namespace Go.Proofs.Ytlfdnlomlbbicaa
open Go.RowKit Go.Mx

set_option maxRecDepth 100000 in
set_option maxHeartbeats 4000000 in
theorem enc_tree (dv iv pv : Value) (o : Ob) (w : World) (h : OB w dv iv pv o) (hz : OZ o) (hm : mayB o = true) (hk : o.kind = 2) :
    Calls Try.prog 10 #[OV dv iv pv o] w fun e w' => ∃ v, e = .returned (.tuple #[v, .int .i64 0]) ∧ St w w' [(⟨v, 5, 1, (encL o).length, bs (encL o)⟩ : Row)] [] := by
  have HMY := Mx.hid (fun wx (hs : St w wx [] []) => may_any dv iv pv o wx (OB.old hs h) hz)
  have hb : itemsB o.items = true := by
    unfold mayB at hm
    rw [if_neg (by omega), if_pos hk] at hm
    simp only [Bool.and_eq_true, decide_eq_true_eq] at hm
    exact hm.1.2
  have hlen : o.items.length ≤ 256 := by
    unfold itemsB at hb
    simp only [Bool.and_eq_true, decide_eq_true_eq] at hb
    exact hb.2
  have HB := Mx.hid (fun (i : Nat) (hi : i < o.items.length) => (show itemB o.items[i] = true by
    unfold itemsB at hb
    simp only [Bool.and_eq_true, decide_eq_true_eq] at hb
    exact List.all_eq_true.1 hb.1.1 _ (List.getElem_mem hi)))
  rw [hm] at HMY
  have HE := Mx.hid (show encL o = 2 :: (putL o.items.length ++ o.items.flatMap itemL) by unfold encL; rw [if_neg (by omega), if_pos hk])
  have HZ := Mx.hid (fun (i : Nat) (hi : i < o.items.length) => hz.it o.items[i] (List.getElem_mem hi))
  obtain ⟨d1, d2, rfl, g1, g2, _⟩ := h.d
  obtain ⟨i1, i2, blk, off, hiv, g3, g4, _, hcell⟩ := h.i.anyC
  have HC := Mx.hid (fun (i : Nat) (hi : i < o.items.length) => (show i1 = some ⟨blk, off, none⟩ ∧ w.cell? ⟨blk, off + i * 3, none⟩ = some (.int .i64 o.items[i].1) ∧ w.cell? ⟨blk, off + i * 3 + 1, none⟩ = some (.string o.items[i].2.1) ∧ w.cell? ⟨blk, off + i * 3 + 2, none⟩ = some (.string o.items[i].2.2) from by
    have g0 := hcell (i * 3 + 0) _ ((flat_get (k := 3) (fun _ => rfl) o.items (by omega) hi).trans (show (itmRow o.items[i])[0]? = some (.int .i64 o.items[i].1) from rfl))
    have g1 := hcell (i * 3 + 1) _ ((flat_get (k := 3) (fun _ => rfl) o.items (by omega) hi).trans (show (itmRow o.items[i])[1]? = some (.string o.items[i].2.1) from rfl))
    have g2 := hcell (i * 3 + 2) _ ((flat_get (k := 3) (fun _ => rfl) o.items (by omega) hi).trans (show (itmRow o.items[i])[2]? = some (.string o.items[i].2.2) from rfl))
    exact ⟨g0.1, g0.2, g1.2, g2.2⟩))
  subst hiv
  obtain ⟨p1, p2, rfl, g5, g6, _⟩ := h.p
  clear h hz hm hcell hb
  obtain ⟨kind, data, items, tree, parents, stamp, author, msg⟩ := o
  simp only [OV] at *
  subst hk
  have h9 := putL_9 (show items.length ≤ 72057594037927936 by omega)
  go_enter Try.func10, Try.ntmps10
  go_wp2_with (first | (((with_reducible show wpList _ _ _ _ _ _); refine wpl_box rfl 26 _ rfl (St.refl w) ([.int .i64 2, .slice d1 data.length d2, .slice i1 items.length i2, .string tree, .slice p1 parents.length p2, .int .i64 stamp, .int .i64 author, .string msg]) (by rfl) ?_; intro gx wx hsx); (have x0 := hsx.cell (j := 0) rfl; have x1 := hsx.cell (j := 1) rfl; have x2 := hsx.cell (j := 2) rfl; have x3 := hsx.cell (j := 3) rfl; have x4 := hsx.cell (j := 4) rfl; have x5 := hsx.cell (j := 5) rfl; have x6 := hsx.cell (j := 6) rfl; have x7 := hsx.cell (j := 7) rfl)) | ((with_reducible show wpList _ _ _ _ _ _); refine wpl_loadA rfl 26 _ rfl Try.aObj (gx) (0) rfl ([.int .i64 2, .slice d1 data.length d2, .slice i1 items.length i2, .string tree, .slice p1 parents.length p2, .int .i64 stamp, .int .i64 author, .string msg]) rfl (fun i u h => by rw [Nat.zero_add]; exact hsx.rcell (List.mem_cons_self ..) h) ?_) | (go_at_call 16; refine (HMY.out _ hsx.bare).mono ?_; rintro e w2 ⟨rfl, hk⟩; replace hsx := hsx.call0 hk; (have x0 := hsx.cell (j := 0) rfl; have x1 := hsx.cell (j := 1) rfl; have x2 := hsx.cell (j := 2) rfl; have x3 := hsx.cell (j := 3) rfl; have x4 := hsx.cell (j := 4) rfl; have x5 := hsx.cell (j := 5) rfl; have x6 := hsx.cell (j := 6) rfl; have x7 := hsx.cell (j := 7) rfl)) | (((with_reducible show wpList _ _ _ _ _ _); refine wpl_lit1 rfl 22 _ rfl Try.elU8 hsx (.int .u8 2) (by rfl) (by rfl) ?_; intro gl w3 hs3); have x0 := hs3.rcell (j := 0) (List.mem_cons_of_mem _ (List.mem_cons_self ..)) rfl; have x1 := hs3.rcell (j := 1) (List.mem_cons_of_mem _ (List.mem_cons_self ..)) rfl; have x2 := hs3.rcell (j := 2) (List.mem_cons_of_mem _ (List.mem_cons_self ..)) rfl; have x3 := hs3.rcell (j := 3) (List.mem_cons_of_mem _ (List.mem_cons_self ..)) rfl; have x4 := hs3.rcell (j := 4) (List.mem_cons_of_mem _ (List.mem_cons_self ..)) rfl; have x5 := hs3.rcell (j := 5) (List.mem_cons_of_mem _ (List.mem_cons_self ..)) rfl; have x6 := hs3.rcell (j := 6) (List.mem_cons_of_mem _ (List.mem_cons_self ..)) rfl; have x7 := hs3.rcell (j := 7) (List.mem_cons_of_mem _ (List.mem_cons_self ..)) rfl) | ((go_at_call 34; refine (number_go _ ([2]) (items.length) (hs3) (by omega) (by simp)).mono ?_; rintro e w4 ⟨v4, rfl, hs4⟩); have x0 := hs4.rcell (j := 0) (List.mem_cons_of_mem _ (List.mem_cons_self ..)) rfl; have x2 := hs4.rcell (j := 2) (List.mem_cons_of_mem _ (List.mem_cons_self ..)) rfl))
  go_loopw [4, 34] (fun x y wr => ∃ (i : Nat) (acc : List UInt8), i ≤ items.length ∧ y = .int .i64 i ∧ acc.length ≤ 10 + 106 * i ∧ Hid (acc = 2 :: (putL items.length ++ (items.take i).flatMap itemL)) ∧ St w wr [(⟨x, 5, 1, (acc).length, bs (acc)⟩ : Row), (⟨.slice (some ⟨gx, 0, none⟩) 1 1, 26, 8, 1, [.int .i64 2, .slice d1 data.length d2, .slice i1 items.length i2, .string tree, .slice p1 parents.length p2, .int .i64 stamp, .int .i64 author, .string msg]⟩ : Row)] []) (fun _ y _ => items.length - (intOf y).toNat)
  case atStart => exact ⟨0, [2] ++ putL items.length, by omega, rfl, by simp; omega, by simp [Hid], hs4⟩
  case round =>
    obtain ⟨i, acc, hi, rfl, hac, He, hs⟩ := hrel
    by_cases hlt : i < items.length
    · obtain ⟨rfl, c0, c1, c2⟩ := HC.out i hlt
      have c0 := hs.keep c0
      have c1 := hs.keep c1
      have c2 := hs.keep c2
      obtain ⟨z1, z2, z3, z4⟩ := HZ.out i hlt
      have hib := HB.out i hlt
      have HT := Mx.hid (show (items.take (i + 1)).flatMap itemL = (items.take i).flatMap itemL ++ itemL items[i] by rw [List.take_succ_eq_append_getElem hlt, List.flatMap_append]; simp)
      generalize items[i] = y at *
      obtain ⟨m, nme, hsh⟩ := y
      simp only [itemB, Bool.and_eq_true, decide_eq_true_eq] at hib
      obtain ⟨⟨hm, hn⟩, hv⟩ := hib
      simp only [] at *
      have hsz : nme.size ≤ 64 := by
        simp only [nameB, Bool.and_eq_true, decide_eq_true_eq] at hn
        have := hn.2.2.1
        simpa [bL] using this
      have h9b := putL_9 (show nme.size ≤ 72057594037927936 by omega)
      have hm8 : m % 256 = m := by omega
      have h32 := raw_len hv
      have Hm1 := Mx.hid (show [Value.int .u8 (IntKind.u8.wrap m)] = bs [UInt8.ofNat m.toNat] by
        rw [IntWalk.u8_in m (by omega)]
        show _ = [Value.int .u8 _]
        rw [UInt8.toNat_ofNat']; congr 2; omega)
      have Hv := Mx.hid hv
      have H32 := Mx.hid h32
      clear hn hv h32 hm
      go_wp2_with fail
      have hsy := hs.madeAt #[.int .i64 m, .string nme, .string hsh] 65 3 1 wr.heap.size (by rfl) (by simp [maxLen]) rfl
      generalize wr.alloc (.cells #[.int .i64 m, .string nme, .string hsh] 65) = wy at hsy ⊢
      generalize wr.heap.size = gy at hsy ⊢
      have y0 : wy.cell? ⟨gy, 0, none⟩ = some (.int .i64 m) := hsy.cell rfl
      have y1 : wy.cell? ⟨gy, 1, none⟩ = some (.string nme) := hsy.cell rfl
      have y2 : wy.cell? ⟨gy, 2, none⟩ = some (.string hsh) := hsy.cell rfl
      go_region_held3 (fun W => W.cell? ⟨gy, 0, none⟩ = some (.int .i64 m) ∧ W.cell? ⟨gy, 1, none⟩ = some (.string nme) ∧ W.cell? ⟨gy, 2, none⟩ = some (.string hsh)) (first | exact ⟨hs2.rcell (j := 0) (List.mem_cons_of_mem _ (List.mem_cons_self ..)) rfl, hs2.rcell (j := 1) (List.mem_cons_of_mem _ (List.mem_cons_self ..)) rfl, hs2.rcell (j := 2) (List.mem_cons_of_mem _ (List.mem_cons_self ..)) rfl⟩ | exact ⟨hs1.rcell (j := 0) (List.mem_cons_of_mem _ (List.mem_cons_self ..)) rfl, hs1.rcell (j := 1) (List.mem_cons_of_mem _ (List.mem_cons_self ..)) rfl, hs1.rcell (j := 2) (List.mem_cons_of_mem _ (List.mem_cons_self ..)) rfl⟩ | go_keep) (first | (refine step_app rfl _ _ 22 rfl Try.elU8 (by exact hsy.drew.swap.alloc _) rfl (by exact Sl.one _ _ _) (by intro u hu; simp at hu; subst hu; rfl) (by omega) ?_; intro v1 w1 hs1 _) | (go_at_call 34; refine (number_go v1 (acc ++ [UInt8.ofNat m.toNat]) (nme.size) (hs1.cast (by simp) (by rw [bs_app, Hm1.out])) (by omega) (by simp; omega)).mono ?_; rintro e w2 ⟨v2, rfl, hs2⟩))
      go_wp2_with fail
      have HL2 := Mx.hid (show (acc ++ [UInt8.ofNat m.toNat] ++ putL nme.size).length ≤ acc.length + 10 by simp; omega)
      generalize hA2 : acc ++ [UInt8.ofNat m.toNat] ++ putL nme.size = A2 at *
      have HA2 := Mx.hid hA2
      have hl2 := HL2.out
      clear hA2
      go_region_held3 (fun W => W.cell? ⟨gy, 1, none⟩ = some (.string nme) ∧ W.cell? ⟨gy, 2, none⟩ = some (.string hsh)) (first | exact ⟨hs4.rcell (j := 1) (List.mem_cons_of_mem _ (List.mem_cons_self ..)) rfl, hs4.rcell (j := 2) (List.mem_cons_of_mem _ (List.mem_cons_self ..)) rfl⟩ | exact ⟨hs3.rcell (j := 1) (List.mem_cons_of_mem _ (List.mem_cons_self ..)) rfl, hs3.rcell (j := 2) (List.mem_cons_of_mem _ (List.mem_cons_self ..)) rfl⟩ | exact ⟨hs2.rcell (j := 1) (List.mem_cons_of_mem _ (List.mem_cons_self ..)) rfl, hs2.rcell (j := 2) (List.mem_cons_of_mem _ (List.mem_cons_self ..)) rfl⟩ | go_keep) (first | (refine step_app_str rfl _ _ 22 9 rfl Try.elU8 Try.underlying9 (by exact hs2.drew) rfl rfl (by omega) ?_; intro v3 w3 hs3 _) | (go_at_call 35; refine (hash_go v3 (A2 ++ bL nme) hsh (hs3.cast (by simp [bL]) (by rw [bs_app]; rfl)) (z2) (Hv.out) (by simp [bL]; omega)).mono ?_; rintro e w4 ⟨v4, rfl, hs4⟩))
      go_wp2_with fail
      case roundEnd => exact ⟨⟨i + 1, A2 ++ bL nme ++ rawL hsh, by omega, by go_num, by have := H32.out; simp [bL]; omega, by rw [HT.out, ← HA2.out, He.out]; simp [itemL, Hid], hs4.swap.tail⟩, by simp [intOf]; omega⟩
    · have HF := Mx.hid (show encL ⟨2, data, items, tree, parents, stamp, author, msg⟩ = acc by
        rw [HE.out, He.out, List.take_of_length_le (by omega)])
      go_wp2_with fail
      go_ret2
      exact ⟨_, rfl, by rw [HF.out]; exact hs.head⟩
end Go.Proofs.Ytlfdnlomlbbicaa

namespace Go.Proofs.Ytlfdnlomlbbicaa
open Go.RowKit Go.Mx

set_option maxRecDepth 100000 in
set_option maxHeartbeats 4000000 in
theorem enc_commit (dv iv pv : Value) (o : Ob) (w : World) (h : OB w dv iv pv o) (hz : OZ o) (hm : mayB o = true) (hk : o.kind = 3) :
    Calls Try.prog 10 #[OV dv iv pv o] w fun e w' => ∃ v, e = .returned (.tuple #[v, .int .i64 0]) ∧ St w w' [(⟨v, 5, 1, (encL o).length, bs (encL o)⟩ : Row)] [] := by
  have HMY := Mx.hid (fun wx (hs : St w wx [] []) => may_any dv iv pv o wx (OB.old hs h) hz)
  have hm2 := hm
  unfold mayB at hm2
  rw [if_neg (by omega), if_neg (by omega), if_pos hk] at hm2
  simp only [Bool.and_eq_true, decide_eq_true_eq, parentsB, msgB] at hm2
  obtain ⟨⟨⟨⟨⟨⟨u1, u2⟩, ht⟩, ⟨hp, u3⟩, hpl⟩, hs1, hs2⟩, ha1, ha2⟩, u4, hml⟩ := hm2
  clear u1 u2 u3 u4
  rw [hm] at HMY
  have HP := Mx.hid (fun (i : Nat) (hi : i < o.parents.length) => List.all_eq_true.1 hp _ (List.getElem_mem hi))
  have HPZ := Mx.hid (fun (i : Nat) (hi : i < o.parents.length) => hz.ps o.parents[i] (List.getElem_mem hi))
  have HE := Mx.hid (show encL o = 3 :: (rawL o.tree ++ (UInt8.ofNat o.parents.length :: o.parents.flatMap rawL) ++ putL o.stamp.toNat ++ putL o.author.toNat ++ putL o.msg.size ++ bL o.msg) by unfold encL; rw [if_neg (by omega), if_neg (by omega)])
  have Ht := Mx.hid ht
  have H32 := Mx.hid (raw_len ht)
  have z1 := hz.tr
  obtain ⟨d1, d2, rfl, g1, g2, _⟩ := h.d
  obtain ⟨i1, i2, rfl, g3, g4, _⟩ := h.i
  obtain ⟨p1, p2, blk, off, hpv, g5, g6, _, hcell⟩ := h.p.txt
  have HC := Mx.hid hcell
  clear h hz hm hcell hp ht
  obtain ⟨kind, data, items, tree, parents, stamp, author, msg⟩ := o
  subst hpv
  simp only [OV] at *
  subst hk
  obtain ⟨st, rfl⟩ := Int.eq_ofNat_of_zero_le hs1
  obtain ⟨au, rfl⟩ := Int.eq_ofNat_of_zero_le ha1
  have h9a := putL_9 (show st ≤ 72057594037927936 by omega)
  have h9b := putL_9 (show au ≤ 72057594037927936 by omega)
  have h9c := putL_9 (show msg.size ≤ 72057594037927936 by omega)
  have Hm1 := Mx.hid (show [Value.int .u8 (IntKind.u8.wrap (parents.length : Int))] = bs [UInt8.ofNat parents.length] by
    rw [IntWalk.u8_in _ (by omega)]
    show _ = [Value.int .u8 _]
    rw [UInt8.toNat_ofNat']; congr 2; omega)
  clear hs1 ha1
  have HN := Mx.hid (show parents.length ≤ 2 ∧ msg.size ≤ 200 ∧ st ≤ 1099511627776 ∧ au ≤ 255 ∧ (putL st).length ≤ 9 ∧ (putL au).length ≤ 9 ∧ (putL msg.size).length ≤ 9 from ⟨hpl, hml, by omega, by omega, h9a, h9b, h9c⟩)
  clear hpl hml hs2 ha2 h9a h9b h9c
  go_enter Try.func10, Try.ntmps10
  go_wp2_with (first | (((with_reducible show wpList _ _ _ _ _ _); refine wpl_box rfl 26 _ rfl (St.refl w) ([.int .i64 3, .slice d1 data.length d2, .slice i1 items.length i2, .string tree, .slice p1 parents.length p2, .int .i64 (st : Int), .int .i64 (au : Int), .string msg]) (by rfl) ?_; intro gx wx hsx); (have x0 := hsx.cell (j := 0) rfl; have x1 := hsx.cell (j := 1) rfl; have x2 := hsx.cell (j := 2) rfl; have x3 := hsx.cell (j := 3) rfl; have x4 := hsx.cell (j := 4) rfl; have x5 := hsx.cell (j := 5) rfl; have x6 := hsx.cell (j := 6) rfl; have x7 := hsx.cell (j := 7) rfl)) | ((with_reducible show wpList _ _ _ _ _ _); refine wpl_loadA rfl 26 _ rfl Try.aObj (gx) (0) rfl ([.int .i64 3, .slice d1 data.length d2, .slice i1 items.length i2, .string tree, .slice p1 parents.length p2, .int .i64 (st : Int), .int .i64 (au : Int), .string msg]) rfl (fun i u h => by rw [Nat.zero_add]; exact hsx.rcell (List.mem_cons_self ..) h) ?_) | (go_at_call 16; refine (HMY.out _ hsx.bare).mono ?_; rintro e w2 ⟨rfl, hk⟩; replace hsx := hsx.call0 hk; (have x0 := hsx.cell (j := 0) rfl; have x1 := hsx.cell (j := 1) rfl; have x2 := hsx.cell (j := 2) rfl; have x3 := hsx.cell (j := 3) rfl; have x4 := hsx.cell (j := 4) rfl; have x5 := hsx.cell (j := 5) rfl; have x6 := hsx.cell (j := 6) rfl; have x7 := hsx.cell (j := 7) rfl)) | (((with_reducible show wpList _ _ _ _ _ _); refine wpl_lit1 rfl 22 _ rfl Try.elU8 hsx (.int .u8 3) (by rfl) (by rfl) ?_; intro gl w3 hs3); have x0 := hs3.rcell (j := 0) (List.mem_cons_of_mem _ (List.mem_cons_self ..)) rfl; have x1 := hs3.rcell (j := 1) (List.mem_cons_of_mem _ (List.mem_cons_self ..)) rfl; have x2 := hs3.rcell (j := 2) (List.mem_cons_of_mem _ (List.mem_cons_self ..)) rfl; have x3 := hs3.rcell (j := 3) (List.mem_cons_of_mem _ (List.mem_cons_self ..)) rfl; have x4 := hs3.rcell (j := 4) (List.mem_cons_of_mem _ (List.mem_cons_self ..)) rfl; have x5 := hs3.rcell (j := 5) (List.mem_cons_of_mem _ (List.mem_cons_self ..)) rfl; have x6 := hs3.rcell (j := 6) (List.mem_cons_of_mem _ (List.mem_cons_self ..)) rfl; have x7 := hs3.rcell (j := 7) (List.mem_cons_of_mem _ (List.mem_cons_self ..)) rfl))
  have h32 := H32.out
  have hs3' : St w w3 ((⟨.slice (some ⟨gl, 0, none⟩) 1 1, 5, 1, ([3]).length, bs ([3])⟩ : Row) :: (⟨.slice (some ⟨gx, 0, none⟩) 1 1, 26, 8, 1, [.int .i64 3, .slice d1 data.length d2, .slice i1 items.length i2, .string tree, .slice p1 parents.length p2, .int .i64 (st : Int), .int .i64 (au : Int), .string msg]⟩ : Row) :: []) [] := hs3
  have HH1 := Mx.hid (hash_go _ [3] tree hs3'.drew z1 Ht.out (by simp))
  have HH2 := Mx.hid (hash_go _ [3] tree (hs3'.bq (.int .u8 (IntKind.u8.wrap (parents.length : Int))) 5).drew z1 Ht.out (by simp))
  go_region_held3 (fun W => W.cell? ⟨gx, 3, none⟩ = some (.string tree) ∧ W.cell? ⟨gx, 4, none⟩ = some (.slice p1 parents.length p2)) (first | exact ⟨hs5.rcell (j := 3) (List.mem_cons_of_mem _ (List.mem_cons_self ..)) rfl, hs5.rcell (j := 4) (List.mem_cons_of_mem _ (List.mem_cons_self ..)) rfl⟩ | exact ⟨hs4.rcell (j := 3) (List.mem_cons_of_mem _ (List.mem_cons_self ..)) rfl, hs4.rcell (j := 4) (List.mem_cons_of_mem _ (List.mem_cons_self ..)) rfl⟩ | exact ⟨hq3.rcell (j := 3) (List.mem_cons_of_mem _ (List.mem_cons_self ..)) rfl, hq3.rcell (j := 4) (List.mem_cons_of_mem _ (List.mem_cons_self ..)) rfl⟩ | go_keep) (first
    | (go_at_call 35; (with_reducible show Calls _ _ _ (World.drew (World.alloc _ _)) _); refine HH2.out.mono ?_; rintro e w4 ⟨v4, rfl, hs4⟩)
    | (go_at_call 35; refine HH1.out.mono ?_; rintro e w4 ⟨v4, rfl, hs4⟩)
    | (refine step_app rfl _ _ 22 rfl Try.elU8 (by exact hs4.alloc _) rfl (by exact Sl.one _ _ _) (by intro u hu; simp at hu; subst hu; rfl) (by simp; omega) ?_; intro v5 w5 hs5 _)
    | (refine step_app rfl _ _ 22 rfl Try.elU8 (by exact hs4) rfl (by exact hs4.q0) (by intro u hu; simp at hu; subst hu; rfl) (by simp; omega) ?_; intro v5 w5 hs5 _))
  all_goals
    have hs6 : St w w5 ((⟨v5, 5, 1, ([3] ++ rawL tree ++ [UInt8.ofNat parents.length]).length, bs ([3] ++ rawL tree ++ [UInt8.ofNat parents.length])⟩ : Row) :: (⟨.slice (some ⟨gx, 0, none⟩) 1 1, 26, 8, 1, [.int .i64 3, .slice d1 data.length d2, .slice i1 items.length i2, .string tree, .slice p1 parents.length p2, .int .i64 (st : Int), .int .i64 (au : Int), .string msg]⟩ : Row) :: []) [] := hs5.noQ.cast (by simp) (by rw [Hm1.out]; simp [bs])
    have x4 := hs6.rcell (j := 4) (List.mem_cons_of_mem _ (List.mem_cons_self ..)) rfl
    clear hs5 hs4 hs3 hs3' HH1 HH2 hsx
    go_wp2_with fail
    go_loopw [4, 70] (fun x y wr => ∃ (i : Nat) (acc : List UInt8), i ≤ parents.length ∧ y = .int .i64 i ∧ acc.length = 34 + 32 * i ∧ Hid (acc = 3 :: (rawL tree ++ (UInt8.ofNat parents.length :: (parents.take i).flatMap rawL))) ∧ St w wr [(⟨x, 5, 1, (acc).length, bs (acc)⟩ : Row), (⟨.slice (some ⟨gx, 0, none⟩) 1 1, 26, 8, 1, [.int .i64 3, .slice d1 data.length d2, .slice i1 items.length i2, .string tree, .slice p1 parents.length p2, .int .i64 (st : Int), .int .i64 (au : Int), .string msg]⟩ : Row)] []) (fun _ y _ => parents.length - (intOf y).toNat)
    case atStart => exact ⟨0, [3] ++ rawL tree ++ [UInt8.ofNat parents.length], by omega, rfl, by simp; omega, by simp [Hid], hs6⟩
    case round =>
      obtain ⟨i, acc, hi, rfl, hac, He, hs⟩ := hrel
      obtain ⟨n1, n2, n3, n4, h9a, h9b, h9c⟩ := HN.out
      by_cases hlt : i < parents.length
      · obtain ⟨rfl, c0⟩ := HC.out i hlt
        have c0 := hs.keep c0
        have hpz := HPZ.out i hlt
        have HT := Mx.hid (show (parents.take (i + 1)).flatMap rawL = (parents.take i).flatMap rawL ++ rawL parents[i] by rw [List.take_succ_eq_append_getElem hlt, List.flatMap_append]; simp)
        have H3 := Mx.hid (raw_len (HP.out i hlt))
        have hal : acc.length ≤ 1000 := by omega
        have HH3 := Mx.hid (fun (wx : World) (v : Value) (R : List Row) (hx : St w wx ((⟨v, 5, 1, (acc).length, bs (acc)⟩ : Row) :: R) []) => hash_go v acc parents[i] hx hpz (HP.out i hlt) (by omega))
        have Hac := Mx.hid hac
        clear hac n1 n2 n3 n4 h9a h9b h9c
        generalize parents[i] = s at *
        go_wp2_with (go_at_call 35; refine (HH3.out _ _ _ hs).mono ?_; rintro e w4 ⟨v4, rfl, hs4⟩)
        go_roundw
        case rel => exact ⟨i + 1, acc ++ rawL s, by omega, by go_num, by have := H3.out; have := Hac.out; simp; omega, by rw [HT.out, He.out]; simp [Hid], hs4⟩
        case measure => simp [intOf]; omega
      · have hF : encL ⟨3, data, items, tree, parents, (st : Int), (au : Int), msg⟩ = acc ++ putL st ++ putL au ++ putL msg.size ++ bL msg := by
          have h2 := He.out
          rw [List.take_of_length_le (by omega)] at h2
          rw [HE.out, h2]
          simp
        have HF := Mx.hid hF
        have hal : acc.length ≤ 1000 := by omega
        have ha1 : (acc ++ putL st).length ≤ 2000 := by simp; omega
        have ha2 : (acc ++ putL st ++ putL au).length ≤ 3000 := by simp; omega
        have ha3 : (acc ++ putL st ++ putL au ++ putL msg.size).length ≤ 4000 := by simp; omega
        have HX1 := Mx.hid (fun (wx : World) v (hx : St w wx [(⟨v, 5, 1, (acc).length, bs (acc)⟩ : Row), (⟨.slice (some ⟨gx, 0, none⟩) 1 1, 26, 8, 1, [.int .i64 3, .slice d1 data.length d2, .slice i1 items.length i2, .string tree, .slice p1 parents.length p2, .int .i64 (st : Int), .int .i64 (au : Int), .string msg]⟩ : Row)] []) => number_go v acc st hx (by omega) (by omega))
        have HX2 := Mx.hid (fun (wx : World) v (hx : St w wx [(⟨v, 5, 1, (acc ++ putL st).length, bs (acc ++ putL st)⟩ : Row), (⟨.slice (some ⟨gx, 0, none⟩) 1 1, 26, 8, 1, [.int .i64 3, .slice d1 data.length d2, .slice i1 items.length i2, .string tree, .slice p1 parents.length p2, .int .i64 (st : Int), .int .i64 (au : Int), .string msg]⟩ : Row)] []) => number_go v (acc ++ putL st) au hx (by omega) (by omega))
        have HX3 := Mx.hid (fun (wx : World) v (hx : St w wx [(⟨v, 5, 1, (acc ++ putL st ++ putL au).length, bs (acc ++ putL st ++ putL au)⟩ : Row), (⟨.slice (some ⟨gx, 0, none⟩) 1 1, 26, 8, 1, [.int .i64 3, .slice d1 data.length d2, .slice i1 items.length i2, .string tree, .slice p1 parents.length p2, .int .i64 (st : Int), .int .i64 (au : Int), .string msg]⟩ : Row)] []) => number_go v (acc ++ putL st ++ putL au) msg.size hx (by omega) (by omega))
        generalize acc ++ putL st ++ putL au ++ putL msg.size = A3 at *
        generalize acc ++ putL st ++ putL au = A2 at *
        generalize acc ++ putL st = A1 at *
        clear hac hF h9a h9b h9c n1 n3 n4
        go_wp2_with fail
        go_region_held3 (fun W => W.cell? ⟨gx, 5, none⟩ = some (.int .i64 (st : Int)) ∧ W.cell? ⟨gx, 6, none⟩ = some (.int .i64 (au : Int)) ∧ W.cell? ⟨gx, 7, none⟩ = some (.string msg)) (first | exact ⟨hs13.rcell (j := 5) (List.mem_cons_of_mem _ (List.mem_cons_self ..)) rfl, hs13.rcell (j := 6) (List.mem_cons_of_mem _ (List.mem_cons_self ..)) rfl, hs13.rcell (j := 7) (List.mem_cons_of_mem _ (List.mem_cons_self ..)) rfl⟩ | exact ⟨hs12.rcell (j := 5) (List.mem_cons_of_mem _ (List.mem_cons_self ..)) rfl, hs12.rcell (j := 6) (List.mem_cons_of_mem _ (List.mem_cons_self ..)) rfl, hs12.rcell (j := 7) (List.mem_cons_of_mem _ (List.mem_cons_self ..)) rfl⟩ | exact ⟨hs11.rcell (j := 5) (List.mem_cons_of_mem _ (List.mem_cons_self ..)) rfl, hs11.rcell (j := 6) (List.mem_cons_of_mem _ (List.mem_cons_self ..)) rfl, hs11.rcell (j := 7) (List.mem_cons_of_mem _ (List.mem_cons_self ..)) rfl⟩ | exact ⟨hs.rcell (j := 5) (List.mem_cons_of_mem _ (List.mem_cons_self ..)) rfl, hs.rcell (j := 6) (List.mem_cons_of_mem _ (List.mem_cons_self ..)) rfl, hs.rcell (j := 7) (List.mem_cons_of_mem _ (List.mem_cons_self ..)) rfl⟩ | go_keep) (first
          | (go_at_call 34; refine (HX3.out _ _ hs12).mono ?_; rintro e w13 ⟨v13, rfl, hs13⟩)
          | (go_at_call 34; refine (HX2.out _ _ hs11).mono ?_; rintro e w12 ⟨v12, rfl, hs12⟩)
          | (go_at_call 34; refine (HX1.out _ _ hs.drew).mono ?_; rintro e w11 ⟨v11, rfl, hs11⟩))
        have x7 := hs13.rcell (j := 7) (List.mem_cons_of_mem _ (List.mem_cons_self ..)) rfl
        go_wp2_with (at_builtin; refine wpl_app_str rfl _ _ 22 9 rfl Try.elU8 Try.underlying9 hs13 rfl rfl (by omega) ?_; intro v14 w14 hs14 _)
        go_ret2
        exact ⟨_, rfl, by rw [HF.out]; exact hs14.head.cast (by simp [bL]) (by rw [bs_app]; rfl)⟩

theorem may_kind {o : Ob} (h : mayB o = true) : o.kind = 1 ∨ o.kind = 2 ∨ o.kind = 3 := by
  unfold mayB at h
  by_cases h1 : o.kind = 1
  · exact .inl h1
  · by_cases h2 : o.kind = 2
    · exact .inr (.inl h2)
    · by_cases h3 : o.kind = 3
      · exact .inr (.inr h3)
      · rw [if_neg h1, if_neg h2, if_neg h3] at h; cases h

theorem encode_any (dv iv pv : Value) (o : Ob) (w : World) (h : OB w dv iv pv o) (hz : OZ o) :
    Calls Try.prog 10 #[OV dv iv pv o] w (EncPost w o) := by
  unfold EncPost
  cases hm : mayB o with
  | false => exact enc_bad dv iv pv o w h hz hm
  | true =>
    rcases may_kind hm with hk | hk | hk
    · exact enc_blob dv iv pv o w h hz hm hk
    · exact enc_tree dv iv pv o w h hz hm hk
    · exact enc_commit dv iv pv o w h hz hm hk
end Go.Proofs.Ytlfdnlomlbbicaa

namespace Go.Mx
open Go Go.RowKit
theorem tk_stop {n : Nat} {l : List UInt8} {sh : Bool} (h : sh = true ∨ l.length < n) : tk n (l, sh) = ([], (l, true)) := by unfold tk; rw [if_pos h]
theorem tk_go {n : Nat} {l : List UInt8} (h : n ≤ l.length) : tk n (l, false) = (l.take n, (l.drop n, false)) := by unfold tk; rw [if_neg (by simp; omega)]
theorem getS_bounds (l : List UInt8) (h : (getS l 0).2.2 = 0) : (0 ≤ (getS l 0).1 ∧ (getS l 0).1 ≤ 72057594037927936) ∧ 0 ≤ (getS l 0).2.1 ∧ (getS l 0).2.1 ≤ l.length := by
  unfold getS at h ⊢
  by_cases h1 : (0 : Int) < 0 ∨ (l.length : Int) < 0
  · rw [if_pos h1] at h; cases h
  · rw [if_neg h1] at h ⊢
    by_cases h2 : (0 : Int).toNat + hiN (l.drop (0 : Int).toNat) = l.length
    · rw [if_pos h2] at h; cases h
    · rw [if_neg h2] at h ⊢
      split at h
      · cases h
      · rename_i h3
        rw [if_neg h3]
        have := hiN_le (l.drop (0 : Int).toNat)
        simp only [show (0 : Int).toNat = 0 from rfl, List.drop_zero, Nat.zero_add] at *
        refine ⟨⟨by omega, by omega⟩, by omega, by omega⟩
end Go.Mx
namespace Go.Proofs.Ytlfdnlomlbbicaa
open Go.RowKit Go.Mx

/-- What take leaves. -/
def TakePost (w0 : World) (R : List Row) (Q : List Rd) (g : Nat) (x : List UInt8) (s : Src) (e : Ending) (w' : World) : Prop :=
  ∃ vx v' : Value, e = .returned vx ∧ Sl w0 1 vx x.length (bs x) ∧ Sl w0 1 v' s.1.length (bs s.1) ∧ St w0 w' ((⟨.slice (some ⟨g, 0, none⟩) 1 1, 93, 2, 1, [v', .bool s.2]⟩ : Row) :: R) Q
/-- What the others leave. -/
def SrcPost (w0 : World) (R : List Row) (Q : List Rd) (g : Nat) (x : Value) (s : Src) (e : Ending) (w' : World) : Prop :=
  ∃ v' : Value, e = .returned x ∧ Sl w0 1 v' s.1.length (bs s.1) ∧ St w0 w' ((⟨.slice (some ⟨g, 0, none⟩) 1 1, 93, 2, 1, [v', .bool s.2]⟩ : Row) :: R) Q

set_option maxHeartbeats 1000000 in
theorem take_go {w0 w : World} {R : List Row} {Q : List Rd} {g : Nat} {v : Value} {sh : Bool} (l : List UInt8) (n : Nat) (hs : St w0 w ((⟨.slice (some ⟨g, 0, none⟩) 1 1, 93, 2, 1, [v, .bool sh]⟩ : Row) :: R) Q) (hl : Sl w0 1 v l.length (bs l)) (hn : n ≤ 72057594037927936) :
    Calls Try.prog 72 #[.pointer (some ⟨g, 0, none⟩), .int .i64 (n : Int)] w (TakePost w0 R Q g (tk n (l, sh)).1 (tk n (l, sh)).2) := by
  have c0 : w.cell? ⟨g, 0, none⟩ = some v := hs.cell (j := 0) rfl
  have c1 : w.cell? ⟨g, 1, none⟩ = some (.bool sh) := hs.cell (j := 1) rfl
  have HL := Mx.hid hl
  cases sh with
  | true =>
    rw [tk_stop (.inl rfl)]
    obtain ⟨ao, cap, rfl, h1, h2, _⟩ := hl.bytes
    unfold maxLen at h2
    clear hl
    go_enter Try.func72, Try.ntmps72
    go_wp2_with (first | ((with_reducible show wpList _ _ _ _ _ _); refine wpl_want rfl ?_) | ((with_reducible show wpList _ _ _ _ _ _); refine wpl_store1 rfl 4 _ _ rfl hs (1) rfl (.bool true) rfl rfl (by kernel_rfl) (by simp) rfl ?_; intro w1 hs1))
    go_ret
    exact ⟨_, _, rfl, Sl.nil _ 1, HL.out, hs1⟩
  | false =>
    by_cases hlt : l.length < n
    · rw [tk_stop (.inr hlt)]
      obtain ⟨ao, cap, rfl, h1, h2, _⟩ := hl.bytes
      unfold maxLen at h2
      have q1 : decide ((l.length : Int) < (n : Int)) = true := decide_eq_true (by omega)
      have q2 : decide (l.length < n) = true := decide_eq_true hlt
      clear hl hlt
      go_enter Try.func72, Try.ntmps72
      go_wp2_with (first | ((with_reducible show wpList _ _ _ _ _ _); refine wpl_want rfl ?_) | ((with_reducible show wpList _ _ _ _ _ _); refine wpl_store1 rfl 4 _ _ rfl hs (1) rfl (.bool true) rfl rfl (by kernel_rfl) (by simp) rfl ?_; intro w1 hs1))
      go_ret
      exact ⟨_, _, rfl, Sl.nil _ 1, HL.out, hs1⟩
    · rw [tk_go (by omega)]
      obtain ⟨xa, p2, q2⟩ := hl.cutRun Try.elU8 none (some (.int .i64 (n : Int))) 0 n (.inl ⟨rfl, rfl⟩) (.inr ⟨.i64, rfl⟩) (by omega) (by omega)
      obtain ⟨xb, p3, q3⟩ := hl.cutRun Try.elU8 (some (.int .i64 (n : Int))) none n l.length (.inr ⟨.i64, rfl⟩) (.inl ⟨rfl, rfl⟩) (by omega) (by omega)
      have ha := Sl.cutB (q2 _ hl) (by omega) (by omega)
      have hb := Sl.cutB (q3 _ hl) (by omega) (by omega)
      rw [List.drop_zero] at ha
      rw [List.take_length] at hb
      obtain ⟨aa, ac, rfl, _⟩ := id ha
      obtain ⟨ba, bc', rfl, _⟩ := id hb
      have HA := Mx.hid ha
      have HB := Mx.hid hb
      obtain ⟨ao, cap, rfl, h1, h2, _⟩ := hl.bytes
      unfold maxLen at h2
      have q1 : decide ((l.length : Int) < (n : Int)) = false := decide_eq_false (by omega)
      have q2 : decide (l.length < n) = false := decide_eq_false hlt
      have Hlt := Mx.hid hlt
      clear hl hlt ha hb
      have HP := Mx.hid (fun w' (h : St w0 w' ((⟨.slice (some ⟨g, 0, none⟩) 1 1, 93, 2, 1, [.slice ba (l.drop n).length bc', .bool false]⟩ : Row) :: R) Q) => (show TakePost w0 R Q g (l.take n) (l.drop n, false) (.returned (.slice aa (l.take n).length ac)) w' from ⟨_, _, rfl, HA.out, HB.out, h⟩))
      clear HA HB
      generalize l.take n = t1 at *
      generalize l.drop n = t2 at *
      generalize t1.length = n1 at *
      generalize t2.length = n2 at *
      go_enter Try.func72, Try.ntmps72
      go_wp2_with (first | ((with_reducible show wpList _ _ _ _ _ _); refine wpl_want rfl ?_) | ((with_reducible show wpList _ _ _ _ _ _); refine wpl_store1 rfl 22 _ _ rfl hs (0) rfl (.slice ba n2 bc') rfl rfl (by kernel_rfl) (by simp) rfl ?_; intro w1 hs1))
      go_ret
      exact HP.out _ hs1

set_option maxRecDepth 100000 in
theorem one_go {w0 w : World} {R : List Row} {Q : List Rd} {g : Nat} {v : Value} {sh : Bool} (l : List UInt8) (hs : St w0 w ((⟨.slice (some ⟨g, 0, none⟩) 1 1, 93, 2, 1, [v, .bool sh]⟩ : Row) :: R) Q) (hl : Sl w0 1 v l.length (bs l)) :
    Calls Try.prog 71 #[.pointer (some ⟨g, 0, none⟩)] w (SrcPost w0 R Q g (.int .i64 ((on (l, sh)).1 : Int)) (on (l, sh)).2) := by
  have HT := Mx.hid (take_go l 1 hs hl (by omega))
  unfold on
  generalize tk 1 (l, sh) = t at *
  obtain ⟨x, s⟩ := t
  simp only [] at *
  clear hs hl
  go_enter Try.func71, Try.ntmps71
  go_wp2_with fail
  refine HT.out.mono ?_
  rintro e w1 ⟨vx, v', rfl, hx, hv, hs1⟩
  have hx2 := hs1.old hx
  have HV := Mx.hid hv
  clear hv hx
  match x, hx2 with
  | [], hx2 =>
    obtain ⟨ao, cap, rfl, h1, h2, _⟩ := hx2.bytes
    clear hx2
    go_wp2_with fail
    go_ret
    exact ⟨_, rfl, HV.out, hs1⟩
  | y :: x, hx2 =>
    obtain ⟨ao, cap, blk, off, rfl, h1, h2, _, hc⟩ := hx2.byt
    obtain ⟨rfl, c0⟩ := hc 0 (by simp)
    clear hx2 hc
    simp only [Nat.add_zero, List.getElem_cons_zero, List.length_cons] at *
    have q1 : (((x.length + 1 : Nat) : Int) == 0) = false := by simp; omega
    have hy := u8_lt y
    have hw : wrap64 (y.toNat : Int) = (y.toNat : Int) := by unfold wrap64; omega
    go_wp2_with fail
    go_ret
    exact ⟨_, rfl, HV.out, hs1⟩

theorem srcHash_go {w0 w : World} {R : List Row} {Q : List Rd} {g : Nat} {v : Value} {sh : Bool} (l : List UInt8) (hs : St w0 w ((⟨.slice (some ⟨g, 0, none⟩) 1 1, 93, 2, 1, [v, .bool sh]⟩ : Row) :: R) Q) (hl : Sl w0 1 v l.length (bs l)) :
    Calls Try.prog 73 #[.pointer (some ⟨g, 0, none⟩)] w (SrcPost w0 R Q g (.string (Mx.hs (l, sh)).1) (Mx.hs (l, sh)).2) := by
  have HT := Mx.hid (take_go l 32 hs hl (by omega))
  have hx32 : (tk 32 (l, sh)).1.length ≤ 32 := by unfold tk; split <;> simp; omega
  unfold Mx.hs
  generalize tk 32 (l, sh) = t at *
  obtain ⟨x, s⟩ := t
  simp only [] at *
  clear hs hl
  go_enter Try.func73, Try.ntmps73
  go_wp2_with fail
  refine HT.out.mono ?_
  rintro e w1 ⟨vx, v', rfl, hx, hv, hs1⟩
  have HX := Mx.hid (fun wx (h : St w1 wx [] []) => shex_any vx x wx (h.old (hs1.old hx)) (by omega))
  have HV := Mx.hid hv
  clear hv hx
  go_wp2_with fail
  refine (HX.out _ (St.refl _)).mono ?_
  rintro e w2 ⟨rfl, hk⟩
  go_wp2_with fail
  go_ret
  exact ⟨_, rfl, HV.out, hs1.call0 hk⟩

set_option maxHeartbeats 1000000 in
theorem srcNumber_go {w0 w : World} {R : List Row} {Q : List Rd} {g : Nat} {v : Value} {sh : Bool} (l : List UInt8) (hs : St w0 w ((⟨.slice (some ⟨g, 0, none⟩) 1 1, 93, 2, 1, [v, .bool sh]⟩ : Row) :: R) Q) (hl : Sl w0 1 v l.length (bs l)) (hn : l.length ≤ 140737488355328) :
    Calls Try.prog 70 #[.pointer (some ⟨g, 0, none⟩)] w (SrcPost w0 R Q g (.int .i64 ((nm (l, sh)).1 : Int)) (nm (l, sh)).2) := by
  have c0 : w.cell? ⟨g, 0, none⟩ = some v := hs.cell (j := 0) rfl
  have HG := Mx.hid (get_any v l 0 w (hs.old hl) hn)
  have hg := getS_bounds l
  unfold GetPost at HG
  unfold nm
  have HT := Mx.hid (fun (wx : World) (n : Nat) (h : St w wx [] []) (hn : n ≤ 72057594037927936) => take_go l n (hs.call0 h) hl hn)
  simp only [] at *
  generalize getS l 0 = t at *
  obtain ⟨n, e, er⟩ := t
  simp only [] at *
  have HL := Mx.hid hl
  obtain ⟨ao, cap, rfl, h1, h2, _⟩ := hl.bytes
  clear hl
  by_cases her : er = 0
  · subst her
    rw [if_pos rfl]
    obtain ⟨⟨hn0, hn1⟩, he0, he1⟩ := hg rfl
    obtain ⟨n, rfl⟩ := Int.eq_ofNat_of_zero_le hn0
    obtain ⟨e, rfl⟩ := Int.eq_ofNat_of_zero_le he0
    have HT2 := Mx.hid (fun w1 hk => HT.out w1 e hk (by omega))
    simp only [Int.toNat_natCast] at *
    generalize tk e (l, sh) = t at *
    obtain ⟨x, s⟩ := t
    simp only [] at *
    clear hn0 he0 hn1 he1 hg
    go_enter Try.func70, Try.ntmps70
    go_wp2_with fail
    refine HG.out.mono ?_
    rintro e1 w1 ⟨rfl, hk⟩
    go_wp2_with fail
    refine (HT2.out _ hk).mono ?_
    rintro e2 w2 ⟨vx, v', rfl, hx, hv, hs2⟩
    have HV := Mx.hid hv
    clear hv hx
    go_wp2_with fail
    go_ret
    exact ⟨_, rfl, HV.out, hs2⟩
  · rw [if_neg her]
    have q1 : (er != 0) = true := by simpa using her
    clear hg her
    go_enter Try.func70, Try.ntmps70
    go_wp2_with fail
    refine HG.out.mono ?_
    rintro e1 w1 ⟨rfl, hk⟩
    have hs1 := hs.call0 hk
    go_wp2_with (first | ((with_reducible show wpList _ _ _ _ _ _); refine wpl_store1 rfl 4 _ _ rfl hs1 (1) rfl (.bool true) rfl rfl (by kernel_rfl) (by simp) rfl ?_; intro w2 hs2))
    go_ret
    exact ⟨_, rfl, HL.out, hs2⟩
end Go.Proofs.Ytlfdnlomlbbicaa

namespace Go.Proofs.Ytlfdnlomlbbicaa
open Go.RowKit Go.Mx

/-- The memory of an object that the call made: its three slices. -/
abbrev obR (dv iv pv : Value) (o : Ob) : List Row := [⟨dv, 5, 1, o.data.length, bs o.data⟩, ⟨iv, 65, 3, o.items.length, itms o.items⟩, ⟨pv, 9, 1, o.parents.length, ss o.parents⟩]
def ReadPost (w : World) (o : Ob) (e : Ending) (w' : World) : Prop := ∃ dv iv pv, e = .returned (OV dv iv pv o) ∧ St w w' (obR dv iv pv o) []

set_option maxRecDepth 100000 in
set_option maxHeartbeats 1000000 in
theorem read_other (v : Value) (l : List UInt8) (kind : Int) (w : World) (hv : Sl w 1 v l.length (bs l)) (k1 : kind ≠ 1) (k2 : kind ≠ 2) (k3 : kind ≠ 3) :
    Calls Try.prog 38 #[.int .i64 kind, v] w (ReadPost w (readO kind l)) := by
  have hr : readO kind l = ⟨kind, [], [], str [], [], 0, 0, str []⟩ := by unfold readO; rw [if_neg k1, if_neg k2, if_neg k3]
  rw [hr]
  have q1 : (kind == 1) = false := by simpa using k1
  have q2 : (kind == 2) = false := by simpa using k2
  have q3 : (kind == 3) = false := by simpa using k3
  obtain ⟨ao, cap, rfl, h1, h2, _⟩ := hv.bytes
  have HZ := Mx.hid (((St.refl w).madeAt ([.int .i64 (0), .slice none 0 0, .slice none 0 0, .string (str []), .slice none 0 0, .int .i64 (0), .int .i64 (0), .string (str [])]).toArray 26 8 1 w.heap.size rfl (by simp [maxLen]) rfl).madeAt ([.int .i64 (0), .slice none 0 0, .slice none 0 0, .string (str []), .slice none 0 0, .int .i64 (0), .int .i64 (0), .string (str [])]).toArray 26 8 1 (w.heap.size + 1) rfl (by simp [maxLen]) (by rw [heap_size_alloc]))
  clear k1 k2 k3 hr hv
  go_enter Try.func38, Try.ntmps38
  go_wp2_with (first | (((with_reducible show wpList _ _ _ _ _ _); refine wpl_storeA rfl 26 _ _ rfl Try.aObj HZ.out (0) rfl ([.int .i64 (kind), .slice none 0 0, .slice none 0 0, .string (str []), .slice none 0 0, .int .i64 (0), .int .i64 (0), .string (str [])]) rfl (by rfl) (by simp) (by intro u hu; simp at hu; rcases hu with rfl | rfl | rfl | rfl | rfl | rfl | rfl | rfl <;> rfl) ?_; intro w1 hs1); clear HZ) | (((with_reducible show wpList _ _ _ _ _ _); refine wpl_box rfl 93 _ rfl hs1 ([.slice ao l.length cap, .bool false]) (by rfl) ?_; intro gx w2 hs2)) | ((with_reducible show wpList _ _ _ _ _ _); refine wpl_loadA rfl 26 _ rfl Try.aObj ((w.heap.size + 1)) (0) rfl ([.int .i64 (kind), .slice none 0 0, .slice none 0 0, .string (str []), .slice none 0 0, .int .i64 (0), .int .i64 (0), .string (str [])]) rfl (fun i u h => by rw [Nat.zero_add]; exact hs2.rcell (List.mem_cons_of_mem _ (List.mem_cons_self ..)) h) ?_) | (((with_reducible show wpList _ _ _ _ _ _); refine wpl_storeA rfl 26 _ _ rfl Try.aObj (hs2.perm (List.perm_append_comm (l₁ := [_, _]) (l₂ := [_]))) (0) rfl ([.int .i64 (kind), .slice none 0 0, .slice none 0 0, .string (str []), .slice none 0 0, .int .i64 (0), .int .i64 (0), .string (str [])]) rfl (by rfl) (by simp) (by intro u hu; simp at hu; rcases hu with rfl | rfl | rfl | rfl | rfl | rfl | rfl | rfl <;> rfl) ?_; intro w9 hs9)))
  replace hs9 := hs9.cast rfl (show _ = [.int .i64 (kind), .slice none 0 0, .slice none 0 0, .string (str []), .slice none 0 0, .int .i64 (0), .int .i64 (0), .string (str [])] by simp)
  have hcw : ∀ i u, ([.int .i64 (kind), .slice none 0 0, .slice none 0 0, .string (str []), .slice none 0 0, .int .i64 (0), .int .i64 (0), .string (str [])])[i]? = some u → w9.cell? ⟨w.heap.size, i, none⟩ = some u := fun i u h => hs9.rcell (List.mem_cons_self ..) h
  refine bodyPost_ret (v := .agg ([.int .i64 (kind), .slice none 0 0, .slice none 0 0, .string (str []), .slice none 0 0, .int .i64 (0), .int .i64 (0), .string (str [])]).toArray) (results_cellA Try.results38 _ Try.aObj (g := w.heap.size) ([.int .i64 (kind), .slice none 0 0, .slice none 0 0, .string (str []), .slice none 0 0, .int .i64 (0), .int .i64 (0), .string (str [])]) ?_ rfl hcw) ?_ ⟨_, _, _, rfl, ((hs9.bare.addNil _ _).addNil _ _).addNil _ _⟩
  · first | (simp; done) | simp [Act.put]
  · first | (simp; done) | simp [Act.put]

set_option maxRecDepth 100000 in
set_option maxHeartbeats 1000000 in
theorem read_blob (v : Value) (l : List UInt8) (w : World) (hv : Sl w 1 v l.length (bs l)) (hl : l.length ≤ 140737488355328) :
    Calls Try.prog 38 #[.int .i64 1, v] w (ReadPost w (readO 1 l)) := by
  have hr : readO 1 l = ⟨1, l, [], str [], [], 0, 0, str []⟩ := by unfold readO; rw [if_pos rfl]
  rw [hr]
  have HCL := Mx.hid (fun wx (h : St w wx [] []) => clone_any v l wx (h.old hv) hl)
  obtain ⟨ao, cap, rfl, h1, h2, _⟩ := hv.bytes
  have HZ := Mx.hid (((St.refl w).madeAt ([.int .i64 (0), .slice none 0 0, .slice none 0 0, .string (str []), .slice none 0 0, .int .i64 (0), .int .i64 (0), .string (str [])]).toArray 26 8 1 w.heap.size rfl (by simp [maxLen]) rfl).madeAt ([.int .i64 (0), .slice none 0 0, .slice none 0 0, .string (str []), .slice none 0 0, .int .i64 (0), .int .i64 (0), .string (str [])]).toArray 26 8 1 (w.heap.size + 1) rfl (by simp [maxLen]) (by rw [heap_size_alloc]))
  clear hr hv
  go_enter Try.func38, Try.ntmps38
  go_wp2_with (first | (((with_reducible show wpList _ _ _ _ _ _); refine wpl_storeA rfl 26 _ _ rfl Try.aObj HZ.out (0) rfl ([.int .i64 (1), .slice none 0 0, .slice none 0 0, .string (str []), .slice none 0 0, .int .i64 (0), .int .i64 (0), .string (str [])]) rfl (by rfl) (by simp) (by intro u hu; simp at hu; rcases hu with rfl | rfl | rfl | rfl | rfl | rfl | rfl | rfl <;> rfl) ?_; intro w1 hs1); clear HZ) | (((with_reducible show wpList _ _ _ _ _ _); refine wpl_box rfl 93 _ rfl hs1 ([.slice ao l.length cap, .bool false]) (by rfl) ?_; intro gx w2 hs2)) | (go_at_call 69; refine (HCL.out _ hs2.bare).mono ?_; rintro e w3 ⟨x, rfl, hk⟩; obtain ⟨xo, xc, rfl, _⟩ := id hk.sl0; have hs3 := (hs2.call1 hk).perm (R' := [_, _, _, _]) (List.perm_append_comm (l₁ := [_, _]) (l₂ := [_, _]))) | (((with_reducible show wpList _ _ _ _ _ _); refine wpl_store1 rfl 22 _ _ rfl hs3 (1) rfl (.slice xo l.length xc) rfl rfl (by kernel_rfl) (by simp) rfl ?_; intro w4 hs4)) | ((with_reducible show wpList _ _ _ _ _ _); refine wpl_loadA rfl 26 _ rfl Try.aObj ((w.heap.size + 1)) (0) rfl ([.int .i64 (1), .slice xo l.length xc, .slice none 0 0, .string (str []), .slice none 0 0, .int .i64 (0), .int .i64 (0), .string (str [])]) rfl (fun i u h => by rw [Nat.zero_add]; exact hs4.rcell (List.mem_cons_self ..) h) ?_) | (((with_reducible show wpList _ _ _ _ _ _); refine wpl_storeA rfl 26 _ _ rfl Try.aObj (hs4.perm (List.Perm.swap _ _ _)) (0) rfl ([.int .i64 (1), .slice xo l.length xc, .slice none 0 0, .string (str []), .slice none 0 0, .int .i64 (0), .int .i64 (0), .string (str [])]) rfl (by rfl) (by simp) (by intro u hu; simp at hu; rcases hu with rfl | rfl | rfl | rfl | rfl | rfl | rfl | rfl <;> rfl) ?_; intro w9 hs9)))
  replace hs9 := hs9.cast rfl (show _ = [.int .i64 (1), .slice xo l.length xc, .slice none 0 0, .string (str []), .slice none 0 0, .int .i64 (0), .int .i64 (0), .string (str [])] by simp)
  have hcw : ∀ i u, ([.int .i64 (1), .slice xo l.length xc, .slice none 0 0, .string (str []), .slice none 0 0, .int .i64 (0), .int .i64 (0), .string (str [])])[i]? = some u → w9.cell? ⟨w.heap.size, i, none⟩ = some u := fun i u h => hs9.rcell (List.mem_cons_self ..) h
  refine bodyPost_ret (v := .agg ([.int .i64 (1), .slice xo l.length xc, .slice none 0 0, .string (str []), .slice none 0 0, .int .i64 (0), .int .i64 (0), .string (str [])]).toArray) (results_cellA Try.results38 _ Try.aObj (g := w.heap.size) ([.int .i64 (1), .slice xo l.length xc, .slice none 0 0, .string (str []), .slice none 0 0, .int .i64 (0), .int .i64 (0), .string (str [])]) ?_ rfl hcw) ?_ ⟨_, _, _, rfl, (hs9.perm (R' := [_, _, _, _]) (List.perm_append_comm (l₁ := [_, _]) (l₂ := [_, _]))).head.addNil _ _ |>.addNil _ _ |>.perm (R' := [_, _, _]) (List.perm_append_comm (l₁ := [_, _]) (l₂ := [_]))⟩
  · first | (simp; done) | simp [Act.put]
  · first | (simp; done) | simp [Act.put]
end Go.Proofs.Ytlfdnlomlbbicaa

namespace Go.Mx
open Go Go.RowKit
/-- No more is left, and what lacked lacks on. -/
def leS (t s : Src) : Prop := t.1.length ≤ s.1.length ∧ (t.2 = false → s.2 = false)
theorem leS.trans {a b c : Src} (h : leS a b) (g : leS b c) : leS a c := ⟨Nat.le_trans h.1 g.1, fun x => g.2 (h.2 x)⟩
theorem leS.refl (a : Src) : leS a a := ⟨Nat.le_refl _, id⟩
theorem tk_le (n : Nat) (s : Src) : leS (tk n s).2 s := by
  unfold tk leS
  split
  · exact ⟨Nat.le_refl _, fun h => by cases h⟩
  · rename_i h
    exact ⟨by simp, fun _ => by cases hs : s.2 with
      | true => exact absurd (.inl hs) h
      | false => rfl⟩
theorem tk_x (n : Nat) (s : Src) : (tk n s).1.length ≤ s.1.length := by
  unfold tk
  split <;> simp
  omega
theorem nm_le (s : Src) : leS (nm s).2 s := by
  unfold nm
  split
  · exact tk_le _ _
  · exact ⟨Nat.le_refl _, fun h => by cases h⟩
theorem on_le (s : Src) : leS (on s).2 s := tk_le _ _
theorem hs_le (s : Src) : leS (hs s).2 s := tk_le _ _
theorem on_lt (s : Src) (h : (on s).2.2 = false) : (on s).2.1.length + 1 ≤ s.1.length := by
  unfold on at *
  simp only [] at *
  unfold tk at *
  split at h
  · cases h
  · rename_i h2
    rw [if_neg h2]
    simp
    omega
theorem nm_max (s : Src) : (nm s).1 ≤ 72057594037927936 := by
  unfold nm
  split
  · rename_i h
    have := getS_bounds s.1 h
    show (getS s.1 0).1.toNat ≤ _
    omega
  · exact Nat.zero_le _
theorem rdItems_stop {n : Nat} {s : Src} (h : s.2 = true ∨ n = 0) : rdItems n s = ([], s) := by
  cases n with
  | zero => rfl
  | succ n =>
    rcases h with h | h
    · rw [rdItems, if_pos h]
    · cases h
theorem rdItems_step {n : Nat} {b : List UInt8} {m k : Nat} {x : List UInt8} {id : ByteArray} {s1 s2 s3 s4 : Src} (h1 : on (b, false) = (m, s1)) (h2 : nm s1 = (k, s2)) (h3 : tk k s2 = (x, s3)) (h4 : hs s3 = (id, s4)) :
    rdItems (n + 1) (b, false) = (((m : Int), str x, id) :: (rdItems n s4).1, (rdItems n s4).2) := by
  rw [rdItems, if_neg (by simp), h1]
  simp only []
  rw [h2]
  simp only []
  rw [h3]
  simp only []
  rw [h4]
theorem itms_len (l : List Itm) : (itms l).length = l.length * 3 := by
  induction l with
  | nil => rfl
  | cons x l ih => simp [itms, itmRow] at ih ⊢; omega
theorem itms_app (l m : List Itm) : itms (l ++ m) = itms l ++ itms m := by simp [itms]
theorem Sl.three (w : World) (x y z : Value) (e : TypeId) : Sl (w.alloc (.cells #[x, y, z] e)) 3 (.slice (some ⟨w.heap.size, 0, none⟩) 1 1) 1 [x, y, z] :=
  ((St.refl w).made #[x, y, z] e 3 1 rfl (by simp [maxLen])).sl0
theorem perm_or {α : Type} (o r i s : α) : [i, s, o, r].Perm [o, r, i, s] := List.perm_append_comm (l₁ := [i, s]) (l₂ := [o, r])
theorem perm_ro {α : Type} (o r i s : α) : [o, r, i, s].Perm [s, i, o, r] := (List.perm_append_comm (l₁ := [o, r]) (l₂ := [i, s])).trans (List.Perm.swap _ _ _)
end Go.Mx
namespace Go.Proofs.Ytlfdnlomlbbicaa
open Go.RowKit Go.Mx

theorem Try.elItem : El Try.prog 23 65 3 40 := El.mk' Try.underlying23 (z := .agg #[.int .i64 0, .string ByteArray.empty, .string ByteArray.empty]) (by kernel_rfl) rfl (by omega)

set_option maxRecDepth 100000 in
set_option maxHeartbeats 4000000 in
theorem read_tree (v : Value) (l : List UInt8) (w : World) (hv : Sl w 1 v l.length (bs l)) (hl : l.length ≤ 1000000000) :
    Calls Try.prog 38 #[.int .i64 2, v] w (ReadPost w (readO 2 l)) := by
  have HR : Hid (∀ t s, rdItems (nm (l, false)).1 (nm (l, false)).2 = (t, s) → readO 2 l = ⟨2, [], t, str [], [], 0, 0, str []⟩) := fun t s h => by
    unfold readO; rw [if_neg (by decide), if_pos rfl]; simp only [h]
  have HN := Mx.hid (fun wx R (h : St w wx R []) g v' (hs : St w wx ((⟨.slice (some ⟨g, 0, none⟩) 1 1, 93, 2, 1, [v', .bool false]⟩ : Row) :: R) []) (hv' : Sl w 1 v' l.length (bs l)) => srcNumber_go l hs hv' (by omega))
  have hnm := nm_max (l, false)
  have hle := nm_le (l, false)
  have HV0 := Mx.hid hv
  obtain ⟨ao, cap, rfl, h1, h2, _⟩ := hv.bytes
  have HZ := Mx.hid (((St.refl w).madeAt ([.int .i64 (0), .slice none 0 0, .slice none 0 0, .string (str []), .slice none 0 0, .int .i64 (0), .int .i64 (0), .string (str [])]).toArray 26 8 1 w.heap.size rfl (by simp [maxLen]) rfl).madeAt ([.int .i64 (0), .slice none 0 0, .slice none 0 0, .string (str []), .slice none 0 0, .int .i64 (0), .int .i64 (0), .string (str [])]).toArray 26 8 1 (w.heap.size + 1) rfl (by simp [maxLen]) (by rw [heap_size_alloc]))
  clear hv HN
  have HN := Mx.hid (fun wx g R (hs : St w wx ((⟨.slice (some ⟨g, 0, none⟩) 1 1, 93, 2, 1, [.slice ao l.length cap, .bool false]⟩ : Row) :: R) []) => srcNumber_go l hs HV0.out (by omega))
  generalize nm (l, false) = t at *
  obtain ⟨n, s0⟩ := t
  simp only [] at *
  have Hle := Mx.hid hle
  clear hle
  go_enter Try.func38, Try.ntmps38
  go_wp2_with (first | (((with_reducible show wpList _ _ _ _ _ _); refine wpl_storeA rfl 26 _ _ rfl Try.aObj HZ.out (0) rfl ([.int .i64 (2), .slice none 0 0, .slice none 0 0, .string (str []), .slice none 0 0, .int .i64 (0), .int .i64 (0), .string (str [])]) rfl (by rfl) (by simp) (by intro u hu; simp at hu; rcases hu with rfl | rfl | rfl | rfl | rfl | rfl | rfl | rfl <;> rfl) ?_; intro w1 hs1); clear HZ) | (((with_reducible show wpList _ _ _ _ _ _); refine wpl_box rfl 93 _ rfl hs1 ([.slice ao l.length cap, .bool false]) (by rfl) ?_; intro gx w2 hs2)) | (go_at_call 70; refine (HN.out _ _ _ hs2).mono ?_; rintro e w3 ⟨v3, rfl, hv3, hs3⟩))
  have hs4 : St w w3 [(⟨.slice (some ⟨gx, 0, none⟩) 1 1, 93, 2, 1, [v3, .bool s0.2]⟩ : Row), (⟨.slice none 0 0, 65, 3, (([] : List Itm)).length, itms (([] : List Itm))⟩ : Row), (⟨.slice (some ⟨w.heap.size + 1, 0, none⟩) 1 1, 26, 8, 1, [.int .i64 (2), .slice none 0 0, .slice none 0 0, .string (str []), .slice none 0 0, .int .i64 (0), .int .i64 (0), .string (str [])]⟩ : Row), (⟨.slice (some ⟨w.heap.size, 0, none⟩) 1 1, 26, 8, 1, [.int .i64 (0), .slice none 0 0, .slice none 0 0, .string (str []), .slice none 0 0, .int .i64 (0), .int .i64 (0), .string (str [])]⟩ : Row)] [] := (hs3.addNil 65 3).swap
  clear hs3 hs2 hs1
  go_loopw [8] (fun y wr => ∃ (i : Nat) (done : List Itm) (b : List UInt8) (sh : Bool) (vs iv : Value), y = .int .i64 i ∧ i ≤ n ∧ Hid (rdItems n s0 = (done ++ (rdItems (n - i) (b, sh)).1, (rdItems (n - i) (b, sh)).2)) ∧ Hid ((sh = false → done.length + b.length ≤ l.length) ∧ done.length ≤ l.length + 1 ∧ b.length ≤ l.length) ∧ Hid (Sl w 1 vs b.length (bs b)) ∧ St w wr [(⟨.slice (some ⟨gx, 0, none⟩) 1 1, 93, 2, 1, [vs, .bool sh]⟩ : Row), (⟨iv, 65, 3, (done).length, itms (done)⟩ : Row), (⟨.slice (some ⟨w.heap.size + 1, 0, none⟩) 1 1, 26, 8, 1, [.int .i64 (2), .slice none 0 0, iv, .string (str []), .slice none 0 0, .int .i64 (0), .int .i64 (0), .string (str [])]⟩ : Row), (⟨.slice (some ⟨w.heap.size, 0, none⟩) 1 1, 26, 8, 1, [.int .i64 (0), .slice none 0 0, .slice none 0 0, .string (str []), .slice none 0 0, .int .i64 (0), .int .i64 (0), .string (str [])]⟩ : Row)] []) (fun y _ => n - (intOf y).toNat)
  case atStart => exact ⟨0, [], s0.1, s0.2, v3, _, rfl, by omega, by simp [Hid], ⟨fun _ => by simpa using Hle.out.1, by simp, Hle.out.1⟩, hv3, hs4⟩
  case round =>
    obtain ⟨i, done, b, sh, vs, iv, rfl, hi, HE, HL, HV, hs⟩ := hrel
    have y0 : wr.cell? ⟨gx, 1, none⟩ = some (.bool sh) := hs.cell (j := 1) rfl
    clear hs4
    by_cases hstop : sh = true ∨ i = n
    · have HF := Mx.hid (HR.out done (b, sh) (by rw [HE.out, rdItems_stop (hstop.imp id (by omega))]; simp))
      have HB := Mx.hid (show done.length ≤ 1000000001 by have := HL.out.2.1; omega)
      have hiv := hs.sl1
      obtain ⟨io, ic, rfl, _⟩ := id hiv
      have hs9p := hs.perm (R' := [_, _, _, _]) ((List.Perm.swap _ _ _).trans (perm_or _ _ _ _))
      have HS := Mx.hid hs9p
      clear hiv
      by_cases hin : i = n
      · have q1 : decide ((i : Int) < (n : Int)) = false := decide_eq_false (by omega)
        have q2 : decide (i < n) = false := decide_eq_false (by omega)
        clear hin hstop hi
        go_wp2_with (first | ((with_reducible show wpList _ _ _ _ _ _); refine wpl_want rfl ?_) | ((with_reducible show wpList _ _ _ _ _ _); refine wpl_loadA rfl 26 _ rfl Try.aObj ((w.heap.size + 1)) (0) rfl ([.int .i64 (2), .slice none 0 0, .slice io done.length ic, .string (str []), .slice none 0 0, .int .i64 (0), .int .i64 (0), .string (str [])]) rfl (fun i u h => by rw [Nat.zero_add]; exact HS.out.rcell (List.mem_cons_self ..) h) ?_) | (((with_reducible show wpList _ _ _ _ _ _); refine wpl_storeA rfl 26 _ _ rfl Try.aObj (HS.out.perm (List.Perm.swap _ _ _)) (0) rfl ([.int .i64 (2), .slice none 0 0, .slice io done.length ic, .string (str []), .slice none 0 0, .int .i64 (0), .int .i64 (0), .string (str [])]) rfl (by rfl) (by simp) (by intro u hu; simp at hu; rcases hu with rfl | rfl | rfl | rfl | rfl | rfl | rfl | rfl <;> rfl) ?_; intro w9 hs9)))
        replace hs9 := hs9.cast rfl (show _ = [.int .i64 (2), .slice none 0 0, .slice io done.length ic, .string (str []), .slice none 0 0, .int .i64 (0), .int .i64 (0), .string (str [])] by simp)
        have hcw : ∀ i u, ([.int .i64 (2), .slice none 0 0, .slice io done.length ic, .string (str []), .slice none 0 0, .int .i64 (0), .int .i64 (0), .string (str [])])[i]? = some u → w9.cell? ⟨w.heap.size, i, none⟩ = some u := fun i u h => hs9.rcell (List.mem_cons_self ..) h
        refine bodyPost_ret (v := .agg ([.int .i64 (2), .slice none 0 0, .slice io done.length ic, .string (str []), .slice none 0 0, .int .i64 (0), .int .i64 (0), .string (str [])]).toArray) (results_cellA Try.results38 _ Try.aObj (g := w.heap.size) ([.int .i64 (2), .slice none 0 0, .slice io done.length ic, .string (str []), .slice none 0 0, .int .i64 (0), .int .i64 (0), .string (str [])]) ?_ rfl hcw) ?_ ⟨_, _, _, by rw [HF.out]; rfl, by rw [HF.out]; exact (hs9.perm (R' := [_, _, _, _]) (List.perm_append_comm (l₁ := [_, _]) (l₂ := [_, _]))).head.addNil _ _ |>.addNil _ _ |>.perm (R' := [_, _, _]) (List.perm_append_comm (l₁ := [_]) (l₂ := [_, _]))⟩
        · first | (simp; done) | simp [Act.put]
        · first | (simp; done) | simp [Act.put]
      · obtain rfl : sh = true := by rcases hstop with h | h; exact h; exact absurd h hin
        have hlt : i < n := by omega
        clear hin hstop
        go_wp2_with (first | ((with_reducible show wpList _ _ _ _ _ _); refine wpl_want rfl ?_) | ((with_reducible show wpList _ _ _ _ _ _); refine wpl_loadA rfl 26 _ rfl Try.aObj ((w.heap.size + 1)) (0) rfl ([.int .i64 (2), .slice none 0 0, .slice io done.length ic, .string (str []), .slice none 0 0, .int .i64 (0), .int .i64 (0), .string (str [])]) rfl (fun i u h => by rw [Nat.zero_add]; exact HS.out.rcell (List.mem_cons_self ..) h) ?_) | (((with_reducible show wpList _ _ _ _ _ _); refine wpl_storeA rfl 26 _ _ rfl Try.aObj (HS.out.perm (List.Perm.swap _ _ _)) (0) rfl ([.int .i64 (2), .slice none 0 0, .slice io done.length ic, .string (str []), .slice none 0 0, .int .i64 (0), .int .i64 (0), .string (str [])]) rfl (by rfl) (by simp) (by intro u hu; simp at hu; rcases hu with rfl | rfl | rfl | rfl | rfl | rfl | rfl | rfl <;> rfl) ?_; intro w9 hs9)))
        replace hs9 := hs9.cast rfl (show _ = [.int .i64 (2), .slice none 0 0, .slice io done.length ic, .string (str []), .slice none 0 0, .int .i64 (0), .int .i64 (0), .string (str [])] by simp)
        have hcw : ∀ i u, ([.int .i64 (2), .slice none 0 0, .slice io done.length ic, .string (str []), .slice none 0 0, .int .i64 (0), .int .i64 (0), .string (str [])])[i]? = some u → w9.cell? ⟨w.heap.size, i, none⟩ = some u := fun i u h => hs9.rcell (List.mem_cons_self ..) h
        refine bodyPost_ret (v := .agg ([.int .i64 (2), .slice none 0 0, .slice io done.length ic, .string (str []), .slice none 0 0, .int .i64 (0), .int .i64 (0), .string (str [])]).toArray) (results_cellA Try.results38 _ Try.aObj (g := w.heap.size) ([.int .i64 (2), .slice none 0 0, .slice io done.length ic, .string (str []), .slice none 0 0, .int .i64 (0), .int .i64 (0), .string (str [])]) ?_ rfl hcw) ?_ ⟨_, _, _, by rw [HF.out]; rfl, by rw [HF.out]; exact (hs9.perm (R' := [_, _, _, _]) (List.perm_append_comm (l₁ := [_, _]) (l₂ := [_, _]))).head.addNil _ _ |>.addNil _ _ |>.perm (R' := [_, _, _]) (List.perm_append_comm (l₁ := [_]) (l₂ := [_, _]))⟩
        · first | (simp; done) | simp [Act.put]
        · first | (simp; done) | simp [Act.put]
    · obtain rfl : sh = false := by cases sh with
        | false => rfl
        | true => exact absurd (.inl rfl) hstop
      have hlt : i < n := by rcases Nat.lt_or_ge i n with h | h; exact h; exact absurd (.inr (by omega)) hstop
      have HL0 := Mx.hid (show done.length + b.length ≤ l.length ∧ b.length ≤ l.length from ⟨HL.out.1 rfl, HL.out.2.2⟩)
      have l1 := on_le (b, false)
      have l1b := on_lt (b, false)
      have H1 := Mx.hid (one_go b hs HV.out)
      have hon := Mx.hid (rfl : on (b, false) = on (b, false))
      generalize hA : on (b, false) = A at *
      have HA := Mx.hid hA
      clear hon hA
      obtain ⟨m, b1, g1⟩ := A
      have l2 := nm_le (b1, g1)
      have H2 := Mx.hid (fun wx (v : Value) (hs : St w wx [(⟨.slice (some ⟨gx, 0, none⟩) 1 1, 93, 2, 1, [v, .bool g1]⟩ : Row), (⟨iv, 65, 3, (done).length, itms (done)⟩ : Row), (⟨.slice (some ⟨w.heap.size + 1, 0, none⟩) 1 1, 26, 8, 1, [.int .i64 (2), .slice none 0 0, iv, .string (str []), .slice none 0 0, .int .i64 (0), .int .i64 (0), .string (str [])]⟩ : Row), (⟨.slice (some ⟨w.heap.size, 0, none⟩) 1 1, 26, 8, 1, [.int .i64 (0), .slice none 0 0, .slice none 0 0, .string (str []), .slice none 0 0, .int .i64 (0), .int .i64 (0), .string (str [])]⟩ : Row)] []) (hv : Sl w 1 v b1.length (bs b1)) => srcNumber_go b1 hs hv (by have := HL.out.2.2; have := l1.1; simp only [] at this; omega))
      have hk := nm_max (b1, g1)
      generalize hA2 : nm (b1, g1) = A2 at *
      have HA2 := Mx.hid hA2
      clear hA2
      obtain ⟨k, b2, g2⟩ := A2
      have l3 := tk_le k (b2, g2)
      have l3x := tk_x k (b2, g2)
      have H3 := Mx.hid (fun wx (v : Value) (hs : St w wx [(⟨.slice (some ⟨gx, 0, none⟩) 1 1, 93, 2, 1, [v, .bool g2]⟩ : Row), (⟨iv, 65, 3, (done).length, itms (done)⟩ : Row), (⟨.slice (some ⟨w.heap.size + 1, 0, none⟩) 1 1, 26, 8, 1, [.int .i64 (2), .slice none 0 0, iv, .string (str []), .slice none 0 0, .int .i64 (0), .int .i64 (0), .string (str [])]⟩ : Row), (⟨.slice (some ⟨w.heap.size, 0, none⟩) 1 1, 26, 8, 1, [.int .i64 (0), .slice none 0 0, .slice none 0 0, .string (str []), .slice none 0 0, .int .i64 (0), .int .i64 (0), .string (str [])]⟩ : Row)] []) (hv : Sl w 1 v b2.length (bs b2)) => take_go b2 k hs hv (by simp only [] at hk; omega))
      generalize hA3 : tk k (b2, g2) = A3 at *
      have HA3 := Mx.hid hA3
      clear hA3
      obtain ⟨x, b3, g3⟩ := A3
      have l4 := Mx.hs_le (b3, g3)
      have H4 := Mx.hid (fun wx (v : Value) (hs : St w wx [(⟨.slice (some ⟨gx, 0, none⟩) 1 1, 93, 2, 1, [v, .bool g3]⟩ : Row), (⟨iv, 65, 3, (done).length, itms (done)⟩ : Row), (⟨.slice (some ⟨w.heap.size + 1, 0, none⟩) 1 1, 26, 8, 1, [.int .i64 (2), .slice none 0 0, iv, .string (str []), .slice none 0 0, .int .i64 (0), .int .i64 (0), .string (str [])]⟩ : Row), (⟨.slice (some ⟨w.heap.size, 0, none⟩) 1 1, 26, 8, 1, [.int .i64 (0), .slice none 0 0, .slice none 0 0, .string (str []), .slice none 0 0, .int .i64 (0), .int .i64 (0), .string (str [])]⟩ : Row)] []) (hv : Sl w 1 v b3.length (bs b3)) => srcHash_go b3 hs hv)
      generalize hA4 : Mx.hs (b3, g3) = A4 at *
      have HA4 := Mx.hid hA4
      clear hA4
      obtain ⟨hsh, b4, g4⟩ := A4
      simp only [] at *
      have HS := Mx.hid (rdItems_step (n := n - (i + 1)) HA.out HA2.out HA3.out HA4.out)
      have L4 := Mx.hid ((l4.trans l3).trans (l2.trans l1))
      have LT := Mx.hid (show g4 = false → b4.length + 1 ≤ b.length from fun h => by
        have e1 := ((l4.trans l3).trans l2)
        have e2 := l1b (e1.2 h)
        have e3 := e1.1
        simp only [] at e2 e3
        omega)
      have y2 : wr.cell? ⟨w.heap.size + 1, 2, none⟩ = some iv := hs.rcell (j := 2) (List.mem_cons_of_mem _ (List.mem_cons_of_mem _ (List.mem_cons_self ..))) rfl
      clear l1 l1b l2 l3 l3x l4 hk hstop HA HA2 HA3 HA4
      go_wp2_with (first | ((with_reducible show wpList _ _ _ _ _ _); refine wpl_want rfl ?_) | (go_at_call 71; refine H1.out.mono ?_; rintro e w4 ⟨v4, rfl, hv4, hs4⟩) | (go_at_call 70; refine (H2.out _ _ hs4 hv4).mono ?_; rintro e w5 ⟨v5, rfl, hv5, hs5⟩) | (go_at_call 72; refine (H3.out _ _ hs5 hv5).mono ?_; rintro e w6 ⟨vx, v6, rfl, hx, hv6, hs6⟩) | ((with_reducible show wpList _ _ _ _ _ _); refine wpl_b2s rfl 22 9 5 _ rfl Try.underlying22 Try.underlying5 Try.underlying9 (by exact hs6.old hx) ?_))
      have y3 := hs6.rcell (j := 2) (List.mem_cons_of_mem _ (List.mem_cons_of_mem _ (List.mem_cons_self ..))) rfl
      (refine wp_region_S (9) (fun W' => W'.cell? ⟨w.heap.size + 1, 2, none⟩ = some iv) (by kernel_rfl) ?_ (fun hHeld => ?_); (focus ((try dsimp only); go_keep)))
      (refine wpAnyS_takeL (i := 0) (v := ?_) rfl (by kernel_rfl) (by kernel_rfl) (by kernel_rfl) (by kernel_rfl) (by kernel_rfl) (by kernel_rfl) (fun _ _ _ h => h) (Or.inl ⟨by rfl, ?_⟩) hHeld ?_; rotate_left 1; (focus (intro w' hSw; (try dsimp only at hSw); go_simp; (try with_reducible rfl))); (try simp only [Act.put, List.setIfInBounds_toArray, List.set_cons_zero, List.set_cons_succ]))
      (refine wpAnyS_takeL (i := 1) (v := ?_) rfl (by kernel_rfl) (by kernel_rfl) (by kernel_rfl) (by kernel_rfl) (by kernel_rfl) (by kernel_rfl) (fun _ _ _ h => h) (Or.inl ⟨by rfl, ?_⟩) hHeld ?_; rotate_left 1; (focus (intro w' hSw; (try dsimp only at hSw); go_simp; (try with_reducible rfl))); (try simp only [Act.put, List.setIfInBounds_toArray, List.set_cons_zero, List.set_cons_succ]))
      (refine wpAnyS_takeL (i := 2) (v := ?_) rfl (by kernel_rfl) (by kernel_rfl) (by kernel_rfl) (by kernel_rfl) (by kernel_rfl) (by kernel_rfl) (fun _ _ _ h => h) (Or.inl ⟨by rfl, ?_⟩) hHeld ?_; rotate_left 1; (focus (intro w' hSw; (try dsimp only at hSw); go_simp; (try with_reducible rfl))); (try simp only [Act.put, List.setIfInBounds_toArray, List.set_cons_zero, List.set_cons_succ]))
      (refine wpAnyS_takeL (i := 3) (v := ?_) rfl (by kernel_rfl) (by kernel_rfl) (by kernel_rfl) (by kernel_rfl) (by kernel_rfl) (by kernel_rfl) (fun _ _ _ h => h) (Or.inl ⟨by rfl, ?_⟩) hHeld ?_; rotate_left 1; (focus (intro w' hSw; (try dsimp only at hSw); go_simp; (try with_reducible rfl))); (try simp only [Act.put, List.setIfInBounds_toArray, List.set_cons_zero, List.set_cons_succ]))
      (refine wpAnyS_takeL (i := 4) (v := ?_) rfl (by kernel_rfl) (by kernel_rfl) (by kernel_rfl) (by kernel_rfl) (by kernel_rfl) (by kernel_rfl) (fun _ _ _ h => h) (Or.inl ⟨by rfl, ?_⟩) hHeld ?_; rotate_left 1; (focus (intro w' hSw; (try dsimp only at hSw); go_simp; (try with_reducible rfl))); (try simp only [Act.put, List.setIfInBounds_toArray, List.set_cons_zero, List.set_cons_succ]))
      (refine wpAnyS_ready (rs := [5]) (by kernel_rfl) (by simp) ?_; refine AllS.consL rfl (fun K hK => ?_) AllS.nil)
      (go_simp; go_at_call 73; refine (H4.out _ _ hs6.drew hv6).mono ?_; rintro e w' ⟨v7, rfl, hv7, hs7⟩; go_wp2_with fail)
      (refine hK.out _ _ ?_ (fun hHeld => ?_); (focus ((try dsimp only); exact hs7.rcell (j := 2) (List.mem_cons_of_mem _ (List.mem_cons_of_mem _ (List.mem_cons_self ..))) rfl)); clear hK K; (try simp only [Act.put, List.setIfInBounds_toArray, List.set_cons_zero, List.set_cons_succ]))
      (refine wpAnyS_takeL (i := 6) (v := ?_) rfl (by kernel_rfl) (by kernel_rfl) (by kernel_rfl) (by kernel_rfl) (by kernel_rfl) (by kernel_rfl) (fun _ _ _ h => h) (Or.inl ⟨by rfl, ?_⟩) hHeld ?_; rotate_left 1; (focus (intro w' hSw; (try dsimp only at hSw); go_simp; (try with_reducible rfl))); (try simp only [Act.put, List.setIfInBounds_toArray, List.set_cons_zero, List.set_cons_succ]))
      (refine wpAnyS_ready (rs := [7]) (by kernel_rfl) (by simp) ?_; refine AllS.consL rfl (fun K hK => ?_) AllS.nil)
      go_simp
      (refine hK.out _ _ ?_ (fun hHeld => ?_); (focus ((try dsimp only); exact (hs7.alloc _).rcell (j := 2) (List.mem_cons_of_mem _ (List.mem_cons_of_mem _ (List.mem_cons_self ..))) rfl)); clear hK K; (try simp only [Act.put, List.setIfInBounds_toArray, List.set_cons_zero, List.set_cons_succ]))
      have HB := Mx.hid (show done.length ≤ 1000000001 by have := HL.out.2.1; omega)
      have hdl := HB.out
      (refine wpAnyS_ready (rs := [8]) (by kernel_rfl) (by simp) ?_; refine AllS.consL rfl (fun K hK => ?_) AllS.nil)
      refine step_app rfl _ _ 23 rfl Try.elItem (by exact (hs7.alloc _).swap) rfl (by exact Sl.three _ _ _ _ _) (by intro u hu; simp at hu; rcases hu with rfl | rfl | rfl <;> rfl) (by omega) ?_
      intro v8 w8 hs8 _
      obtain ⟨vo, vc, rfl, _⟩ := id hs8.sl0
      (refine hK.out _ _ ?_ (fun hHeld => ?_); (focus ((try dsimp only); exact hs8.rcell (j := 2) (List.mem_cons_of_mem _ (List.mem_cons_of_mem _ (List.mem_cons_self ..))) rfl)); clear hK K; (try simp only [Act.put, List.setIfInBounds_toArray, List.set_cons_zero, List.set_cons_succ]))
      (refine wpAnyS_seq (by rfl) (by kernel_rfl) ?_; simp only [List.drop_succ_cons, List.drop_zero])
      go_wp2_with ((with_reducible show wpList _ _ _ _ _ _); refine wpl_store1 rfl 23 _ _ rfl (hs8.perm (perm_or _ _ _ _)) (2) rfl (.slice vo (done.length + 1) vc) rfl rfl (by kernel_rfl) (by simp) rfl ?_; intro w9 hs9)
      case roundEnd => exact ⟨⟨i + 1, done ++ [((m : Int), str x, hsh)], b4, g4, v7, _, by go_num, by omega, (by show _ = _; rw [HE.out, show n - i = (n - (i + 1)) + 1 by omega, HS.out]; simp), (by obtain ⟨e1, e2⟩ := HL0.out; have e3 : b4.length ≤ b.length := L4.out.1; refine ⟨fun h => ?_, by simp; omega, by omega⟩; have e4 := LT.out h; simp; omega), hv7, (hs9.perm (perm_ro _ _ _ _)).swap.cast (by simp) (by simp [itms, itmRow]) |>.swap⟩, by simp [intOf]; omega⟩
end Go.Proofs.Ytlfdnlomlbbicaa

namespace Go.Mx
open Go Go.RowKit
theorem rdPars_stop {n : Nat} {s : Src} (h : s.2 = true ∨ n = 0) : rdPars n s = ([], s) := by
  cases n with
  | zero => rfl
  | succ n =>
    rcases h with h | h
    · rw [rdPars, if_pos h]
    · cases h
theorem rdPars_step {n : Nat} {b : List UInt8} {id : ByteArray} {s1 : Src} (h1 : hs (b, false) = (id, s1)) : rdPars (n + 1) (b, false) = (id :: (rdPars n s1).1, (rdPars n s1).2) := by
  rw [rdPars, if_neg (by simp), h1]
theorem on_256 (s : Src) : (on s).1 < 256 := by
  unfold on
  exact UInt8.toNat_lt _
theorem hs_lt (s : Src) (h : (hs s).2.2 = false) : (hs s).2.1.length + 1 ≤ s.1.length := by
  unfold hs at *
  simp only [] at *
  unfold tk at *
  split at h
  · cases h
  · rename_i h2
    rw [if_neg h2]
    simp
    omega
end Go.Mx
namespace Go.Proofs.Ytlfdnlomlbbicaa
open Go.RowKit Go.Mx

set_option maxRecDepth 100000 in
set_option maxHeartbeats 4000000 in
theorem read_commit (v : Value) (l : List UInt8) (w : World) (hv : Sl w 1 v l.length (bs l)) (hl : l.length ≤ 1000000000) :
    Calls Try.prog 38 #[.int .i64 3, v] w (ReadPost w (readO 3 l)) := by
  have HR : Hid (∀ ps q st s1 au s2 k s3 m s4, rdPars (on (Mx.hs (l, false)).2).1 (on (Mx.hs (l, false)).2).2 = (ps, q) → nm q = (st, s1) → nm s1 = (au, s2) → nm s2 = (k, s3) → tk k s3 = (m, s4) → readO 3 l = ⟨3, [], [], (Mx.hs (l, false)).1, ps, (st : Int), (au : Int), str m⟩) := fun ps q st s1 au s2 k s3 m s4 h h1 h2 h3 h4 => by
    unfold readO; rw [if_neg (by decide), if_neg (by decide), if_pos rfl]; simp only [h, h1, h2, h3, h4]
  have hle := Mx.hs_le (l, false)
  have HV0 := Mx.hid hv
  obtain ⟨ao, cap, rfl, h1, h2, _⟩ := hv.bytes
  have HZ := Mx.hid (((St.refl w).madeAt ([.int .i64 (0), .slice none 0 0, .slice none 0 0, .string (str []), .slice none 0 0, .int .i64 (0), .int .i64 (0), .string (str [])]).toArray 26 8 1 w.heap.size rfl (by simp [maxLen]) rfl).madeAt ([.int .i64 (0), .slice none 0 0, .slice none 0 0, .string (str []), .slice none 0 0, .int .i64 (0), .int .i64 (0), .string (str [])]).toArray 26 8 1 (w.heap.size + 1) rfl (by simp [maxLen]) (by rw [heap_size_alloc]))
  clear hv
  have HN := Mx.hid (fun wx g R (hs : St w wx ((⟨.slice (some ⟨g, 0, none⟩) 1 1, 93, 2, 1, [.slice ao l.length cap, .bool false]⟩ : Row) :: R) []) => srcHash_go l hs HV0.out)
  generalize Mx.hs (l, false) = t at *
  obtain ⟨tr, b0, g0⟩ := t
  have hle2 := on_le (b0, g0)
  have h256 := on_256 (b0, g0)
  have HO := Mx.hid (fun wx g v R (hs : St w wx ((⟨.slice (some ⟨g, 0, none⟩) 1 1, 93, 2, 1, [v, .bool g0]⟩ : Row) :: R) []) (hv : Sl w 1 v b0.length (bs b0)) => one_go b0 hs hv)
  simp only [] at *
  generalize on (b0, g0) = t at *
  obtain ⟨n, s0⟩ := t
  simp only [] at *
  have Hle := Mx.hid (hle2.trans hle)
  have hn : n ≤ 256 := by omega
  clear hle hle2 h256
  go_enter Try.func38, Try.ntmps38
  go_wp2_with (first | (((with_reducible show wpList _ _ _ _ _ _); refine wpl_storeA rfl 26 _ _ rfl Try.aObj HZ.out (0) rfl ([.int .i64 (3), .slice none 0 0, .slice none 0 0, .string (str []), .slice none 0 0, .int .i64 (0), .int .i64 (0), .string (str [])]) rfl (by rfl) (by simp) (by intro u hu; simp at hu; rcases hu with rfl | rfl | rfl | rfl | rfl | rfl | rfl | rfl <;> rfl) ?_; intro w1 hs1); clear HZ) | (((with_reducible show wpList _ _ _ _ _ _); refine wpl_box rfl 93 _ rfl hs1 ([.slice ao l.length cap, .bool false]) (by rfl) ?_; intro gx w2 hs2)) | (go_at_call 73; refine (HN.out _ _ _ hs2).mono ?_; rintro e w3 ⟨v3, rfl, hv3, hs3⟩) | ((with_reducible show wpList _ _ _ _ _ _); refine wpl_store1 rfl 9 _ _ rfl hs3.swap (3) rfl (.string tr) rfl rfl (by kernel_rfl) (by simp) rfl ?_; intro w4 hs4) | (go_at_call 71; refine (HO.out _ _ _ _ hs4.swap hv3).mono ?_; rintro e w5 ⟨v5, rfl, hv5, hs5⟩))
  have hs6 : St w w5 [(⟨.slice (some ⟨gx, 0, none⟩) 1 1, 93, 2, 1, [v5, .bool s0.2]⟩ : Row), (⟨.slice none 0 0, 9, 1, (([] : List ByteArray)).length, ss (([] : List ByteArray))⟩ : Row), (⟨.slice (some ⟨w.heap.size + 1, 0, none⟩) 1 1, 26, 8, 1, [.int .i64 (3), .slice none 0 0, .slice none 0 0, .string (tr), .slice none 0 0, .int .i64 (0), .int .i64 (0), .string (str [])]⟩ : Row), (⟨.slice (some ⟨w.heap.size, 0, none⟩) 1 1, 26, 8, 1, [.int .i64 (0), .slice none 0 0, .slice none 0 0, .string (str []), .slice none 0 0, .int .i64 (0), .int .i64 (0), .string (str [])]⟩ : Row)] [] := (hs5.addNil 9 1).swap
  clear hs5 hs4 hs3 hs2 hs1
  go_loopw [12] (fun y wr => ∃ (i : Nat) (done : List ByteArray) (b : List UInt8) (sh : Bool) (vs iv : Value), y = .int .i64 i ∧ i ≤ n ∧ done.length = i ∧ Hid (rdPars n s0 = (done ++ (rdPars (n - i) (b, sh)).1, (rdPars (n - i) (b, sh)).2)) ∧ b.length ≤ l.length ∧ Hid (Sl w 1 vs b.length (bs b)) ∧ St w wr [(⟨.slice (some ⟨gx, 0, none⟩) 1 1, 93, 2, 1, [vs, .bool sh]⟩ : Row), (⟨iv, 9, 1, (done).length, ss (done)⟩ : Row), (⟨.slice (some ⟨w.heap.size + 1, 0, none⟩) 1 1, 26, 8, 1, [.int .i64 (3), .slice none 0 0, .slice none 0 0, .string (tr), iv, .int .i64 (0), .int .i64 (0), .string (str [])]⟩ : Row), (⟨.slice (some ⟨w.heap.size, 0, none⟩) 1 1, 26, 8, 1, [.int .i64 (0), .slice none 0 0, .slice none 0 0, .string (str []), .slice none 0 0, .int .i64 (0), .int .i64 (0), .string (str [])]⟩ : Row)] []) (fun y _ => n - (intOf y).toNat)
  case atStart => exact ⟨0, [], s0.1, s0.2, v5, _, rfl, by omega, rfl, by simp [Hid], Hle.out.1, hv5, hs6⟩
  case round =>
    obtain ⟨i, done, b, sh, vs, iv, rfl, hi, hd, HE, hbl, HV, hs⟩ := hrel
    have y0 : wr.cell? ⟨gx, 1, none⟩ = some (.bool sh) := hs.cell (j := 1) rfl
    clear hs6
    by_cases hstop : sh = true ∨ i = n
    · have N1 := Mx.hid (fun wx v R (hs : St w wx ((⟨.slice (some ⟨gx, 0, none⟩) 1 1, 93, 2, 1, [v, .bool sh]⟩ : Row) :: R) []) (hv : Sl w 1 v b.length (bs b)) => srcNumber_go b hs hv (by omega))
      have e1 := nm_le (b, sh)
      have HE2 := Mx.hid (show rdPars n s0 = (done, (b, sh)) by rw [HE.out, rdPars_stop (hstop.imp id (by omega))]; simp)
      generalize hq1 : nm (b, sh) = q1 at *
      obtain ⟨st, b1, g1⟩ := q1
      have hb1 : b1.length ≤ 1000000000 := by have := e1.1; simp only [] at this; omega
      have N2 := Mx.hid (fun wx v R (hs : St w wx ((⟨.slice (some ⟨gx, 0, none⟩) 1 1, 93, 2, 1, [v, .bool g1]⟩ : Row) :: R) []) (hv : Sl w 1 v b1.length (bs b1)) => srcNumber_go b1 hs hv (by omega))
      have e2 := nm_le (b1, g1)
      generalize hq2 : nm (b1, g1) = q2 at *
      obtain ⟨au, b2, g2⟩ := q2
      have hb2 : b2.length ≤ 1000000000 := by have := e2.1; simp only [] at this; omega
      have N3 := Mx.hid (fun wx v R (hs : St w wx ((⟨.slice (some ⟨gx, 0, none⟩) 1 1, 93, 2, 1, [v, .bool g2]⟩ : Row) :: R) []) (hv : Sl w 1 v b2.length (bs b2)) => srcNumber_go b2 hs hv (by omega))
      have e3 := nm_max (b2, g2)
      generalize hq3 : nm (b2, g2) = q3 at *
      obtain ⟨k, b3, g3⟩ := q3
      have N4 := Mx.hid (fun wx v R (hs : St w wx ((⟨.slice (some ⟨gx, 0, none⟩) 1 1, 93, 2, 1, [v, .bool g3]⟩ : Row) :: R) []) (hv : Sl w 1 v b3.length (bs b3)) => take_go b3 k hs hv e3)
      generalize hq4 : tk k (b3, g3) = q4 at *
      obtain ⟨m, s4⟩ := q4
      have HF := Mx.hid (HR.out _ _ _ _ _ _ _ _ _ _ HE2.out hq1 hq2 hq3 hq4)
      simp only [] at *
      have hiv := hs.sl1
      obtain ⟨io, ic, rfl, _⟩ := id hiv
      clear hiv hq1 hq2 hq3 hq4 e1 e2 e3 hb1 hb2 HE2 HR
      by_cases hin : i = n
      · have q1 : decide ((i : Int) < (n : Int)) = false := decide_eq_false (by omega)
        have q2 : decide (i < n) = false := decide_eq_false (by omega)
        clear hin hstop hi hd
        go_wp2_with (first | ((with_reducible show wpList _ _ _ _ _ _); refine wpl_want rfl ?_) | (go_at_call 70; refine (N3.out _ _ _ (hs14.perm (R' := [_, _, _, _]) (List.perm_append_comm (l₁ := [_, _]) (l₂ := [_, _]))) hv12).mono ?_; rintro e w15 ⟨v15, rfl, hv15, hs15⟩) | (go_at_call 70; refine (N2.out _ _ _ hs11 hv11).mono ?_; rintro e w12 ⟨v12, rfl, hv12, hs12⟩) | (go_at_call 70; refine (N1.out _ _ _ hs HV.out).mono ?_; rintro e w11 ⟨v11, rfl, hv11, hs11⟩) | (go_at_call 72; refine (N4.out _ _ _ hs15 hv15).mono ?_; rintro e w16 ⟨vx, v16, rfl, hx, hv16, hs16⟩) | ((with_reducible show wpList _ _ _ _ _ _); refine wpl_store1 rfl 9 _ _ rfl (hs16.perm (R' := [_, _, _, _]) (List.perm_append_comm (l₁ := [_, _]) (l₂ := [_, _]))) (7) rfl (.string (str m)) rfl rfl (by kernel_rfl) (by simp) rfl ?_; intro w17 hs17) | ((with_reducible show wpList _ _ _ _ _ _); refine wpl_store1 rfl 3 _ _ rfl hs13 (6) rfl (.int .i64 (au : Int)) rfl rfl (by kernel_rfl) (by simp) rfl ?_; intro w14 hs14) | ((with_reducible show wpList _ _ _ _ _ _); refine wpl_store1 rfl 3 _ _ rfl (hs12.perm (R' := [_, _, _, _]) (List.perm_append_comm (l₁ := [_, _]) (l₂ := [_, _]))) (5) rfl (.int .i64 (st : Int)) rfl rfl (by kernel_rfl) (by simp) rfl ?_; intro w13 hs13) | ((with_reducible show wpList _ _ _ _ _ _); refine wpl_b2s rfl 22 9 5 _ rfl Try.underlying22 Try.underlying5 Try.underlying9 (by exact hs16.old hx) ?_) | ((with_reducible show wpList _ _ _ _ _ _); refine wpl_loadA rfl 26 _ rfl Try.aObj ((w.heap.size + 1)) (0) rfl ([.int .i64 (3), .slice none 0 0, .slice none 0 0, .string (tr), .slice io done.length ic, .int .i64 ((st : Int)), .int .i64 ((au : Int)), .string (str m)]) rfl (fun i u h => by rw [Nat.zero_add]; exact hs17.rcell (List.mem_cons_self ..) h) ?_) | (((with_reducible show wpList _ _ _ _ _ _); refine wpl_storeA rfl 26 _ _ rfl Try.aObj (hs17.perm (List.Perm.swap _ _ _)) (0) rfl ([.int .i64 (3), .slice none 0 0, .slice none 0 0, .string (tr), .slice io done.length ic, .int .i64 ((st : Int)), .int .i64 ((au : Int)), .string (str m)]) rfl (by rfl) (by simp) (by intro u hu; simp at hu; rcases hu with rfl | rfl | rfl | rfl | rfl | rfl | rfl | rfl <;> rfl) ?_; intro w9 hs9)))
        replace hs9 := hs9.cast rfl (show _ = [.int .i64 (3), .slice none 0 0, .slice none 0 0, .string (tr), .slice io done.length ic, .int .i64 ((st : Int)), .int .i64 ((au : Int)), .string (str m)] by simp)
        have hcw : ∀ i u, ([.int .i64 (3), .slice none 0 0, .slice none 0 0, .string (tr), .slice io done.length ic, .int .i64 ((st : Int)), .int .i64 ((au : Int)), .string (str m)])[i]? = some u → w9.cell? ⟨w.heap.size, i, none⟩ = some u := fun i u h => hs9.rcell (List.mem_cons_self ..) h
        refine bodyPost_ret (v := .agg ([.int .i64 (3), .slice none 0 0, .slice none 0 0, .string (tr), .slice io done.length ic, .int .i64 ((st : Int)), .int .i64 ((au : Int)), .string (str m)]).toArray) (results_cellA Try.results38 _ Try.aObj (g := w.heap.size) ([.int .i64 (3), .slice none 0 0, .slice none 0 0, .string (tr), .slice io done.length ic, .int .i64 ((st : Int)), .int .i64 ((au : Int)), .string (str m)]) ?_ rfl hcw) ?_ ⟨_, _, _, by rw [HF.out]; rfl, by rw [HF.out]; exact (hs9.perm (R' := [_, _, _, _]) (List.perm_append_comm (l₁ := [_, _, _]) (l₂ := [_]))).head.addNil _ _ |>.addNil _ _⟩
        · first | (simp; done) | simp [Act.put]
        · first | (simp; done) | simp [Act.put]
      · obtain rfl : sh = true := by rcases hstop with h | h; exact h; exact absurd h hin
        have hlt : i < n := by omega
        clear hin hstop hd
        go_wp2_with (first | ((with_reducible show wpList _ _ _ _ _ _); refine wpl_want rfl ?_) | (go_at_call 70; refine (N3.out _ _ _ (hs14.perm (R' := [_, _, _, _]) (List.perm_append_comm (l₁ := [_, _]) (l₂ := [_, _]))) hv12).mono ?_; rintro e w15 ⟨v15, rfl, hv15, hs15⟩) | (go_at_call 70; refine (N2.out _ _ _ hs11 hv11).mono ?_; rintro e w12 ⟨v12, rfl, hv12, hs12⟩) | (go_at_call 70; refine (N1.out _ _ _ hs HV.out).mono ?_; rintro e w11 ⟨v11, rfl, hv11, hs11⟩) | (go_at_call 72; refine (N4.out _ _ _ hs15 hv15).mono ?_; rintro e w16 ⟨vx, v16, rfl, hx, hv16, hs16⟩) | ((with_reducible show wpList _ _ _ _ _ _); refine wpl_store1 rfl 9 _ _ rfl (hs16.perm (R' := [_, _, _, _]) (List.perm_append_comm (l₁ := [_, _]) (l₂ := [_, _]))) (7) rfl (.string (str m)) rfl rfl (by kernel_rfl) (by simp) rfl ?_; intro w17 hs17) | ((with_reducible show wpList _ _ _ _ _ _); refine wpl_store1 rfl 3 _ _ rfl hs13 (6) rfl (.int .i64 (au : Int)) rfl rfl (by kernel_rfl) (by simp) rfl ?_; intro w14 hs14) | ((with_reducible show wpList _ _ _ _ _ _); refine wpl_store1 rfl 3 _ _ rfl (hs12.perm (R' := [_, _, _, _]) (List.perm_append_comm (l₁ := [_, _]) (l₂ := [_, _]))) (5) rfl (.int .i64 (st : Int)) rfl rfl (by kernel_rfl) (by simp) rfl ?_; intro w13 hs13) | ((with_reducible show wpList _ _ _ _ _ _); refine wpl_b2s rfl 22 9 5 _ rfl Try.underlying22 Try.underlying5 Try.underlying9 (by exact hs16.old hx) ?_) | ((with_reducible show wpList _ _ _ _ _ _); refine wpl_loadA rfl 26 _ rfl Try.aObj ((w.heap.size + 1)) (0) rfl ([.int .i64 (3), .slice none 0 0, .slice none 0 0, .string (tr), .slice io done.length ic, .int .i64 ((st : Int)), .int .i64 ((au : Int)), .string (str m)]) rfl (fun i u h => by rw [Nat.zero_add]; exact hs17.rcell (List.mem_cons_self ..) h) ?_) | (((with_reducible show wpList _ _ _ _ _ _); refine wpl_storeA rfl 26 _ _ rfl Try.aObj (hs17.perm (List.Perm.swap _ _ _)) (0) rfl ([.int .i64 (3), .slice none 0 0, .slice none 0 0, .string (tr), .slice io done.length ic, .int .i64 ((st : Int)), .int .i64 ((au : Int)), .string (str m)]) rfl (by rfl) (by simp) (by intro u hu; simp at hu; rcases hu with rfl | rfl | rfl | rfl | rfl | rfl | rfl | rfl <;> rfl) ?_; intro w9 hs9)))
        replace hs9 := hs9.cast rfl (show _ = [.int .i64 (3), .slice none 0 0, .slice none 0 0, .string (tr), .slice io done.length ic, .int .i64 ((st : Int)), .int .i64 ((au : Int)), .string (str m)] by simp)
        have hcw : ∀ i u, ([.int .i64 (3), .slice none 0 0, .slice none 0 0, .string (tr), .slice io done.length ic, .int .i64 ((st : Int)), .int .i64 ((au : Int)), .string (str m)])[i]? = some u → w9.cell? ⟨w.heap.size, i, none⟩ = some u := fun i u h => hs9.rcell (List.mem_cons_self ..) h
        refine bodyPost_ret (v := .agg ([.int .i64 (3), .slice none 0 0, .slice none 0 0, .string (tr), .slice io done.length ic, .int .i64 ((st : Int)), .int .i64 ((au : Int)), .string (str m)]).toArray) (results_cellA Try.results38 _ Try.aObj (g := w.heap.size) ([.int .i64 (3), .slice none 0 0, .slice none 0 0, .string (tr), .slice io done.length ic, .int .i64 ((st : Int)), .int .i64 ((au : Int)), .string (str m)]) ?_ rfl hcw) ?_ ⟨_, _, _, by rw [HF.out]; rfl, by rw [HF.out]; exact (hs9.perm (R' := [_, _, _, _]) (List.perm_append_comm (l₁ := [_, _, _]) (l₂ := [_]))).head.addNil _ _ |>.addNil _ _⟩
        · first | (simp; done) | simp [Act.put]
        · first | (simp; done) | simp [Act.put]
    · obtain rfl : sh = false := by cases sh with
        | false => rfl
        | true => exact absurd (.inl rfl) hstop
      have hlt : i < n := by rcases Nat.lt_or_ge i n with h | h; exact h; exact absurd (.inr (by omega)) hstop
      have l4 := Mx.hs_le (b, false)
      have H4 := Mx.hid (fun wx (v : Value) R (hs : St w wx ((⟨.slice (some ⟨gx, 0, none⟩) 1 1, 93, 2, 1, [v, .bool false]⟩ : Row) :: R) []) (hv : Sl w 1 v b.length (bs b)) => srcHash_go b hs hv)
      generalize hA4 : Mx.hs (b, false) = A4 at *
      obtain ⟨hsh, b4, g4⟩ := A4
      have HS := Mx.hid (rdPars_step (n := n - (i + 1)) hA4)
      simp only [] at *
      have L4 := Mx.hid l4
      have y2 : wr.cell? ⟨w.heap.size + 1, 4, none⟩ = some iv := hs.rcell (j := 4) (List.mem_cons_of_mem _ (List.mem_cons_of_mem _ (List.mem_cons_self ..))) rfl
      have Hd := Mx.hid hd
      clear l4 hstop hA4 HR
      go_wp2_with ((with_reducible show wpList _ _ _ _ _ _); refine wpl_want rfl ?_)
      (refine wp_region_S (6) (fun W' => W'.cell? ⟨w.heap.size + 1, 4, none⟩ = some iv) (by kernel_rfl) ?_ (fun hHeld => ?_); (focus ((try dsimp only); go_keep)))
      (refine wpAnyS_takeL (i := 0) (v := ?_) rfl (by kernel_rfl) (by kernel_rfl) (by kernel_rfl) (by kernel_rfl) (by kernel_rfl) (by kernel_rfl) (fun _ _ _ h => h) (Or.inl ⟨by rfl, ?_⟩) hHeld ?_; rotate_left 1; (focus (intro w' hSw; (try dsimp only at hSw); go_simp; (try with_reducible rfl))); (try simp only [Act.put, List.setIfInBounds_toArray, List.set_cons_zero, List.set_cons_succ]))
      (refine wpAnyS_takeL (i := 1) (v := ?_) rfl (by kernel_rfl) (by kernel_rfl) (by kernel_rfl) (by kernel_rfl) (by kernel_rfl) (by kernel_rfl) (fun _ _ _ h => h) (Or.inl ⟨by rfl, ?_⟩) hHeld ?_; rotate_left 1; (focus (intro w' hSw; (try dsimp only at hSw); go_simp; (try with_reducible rfl))); (try simp only [Act.put, List.setIfInBounds_toArray, List.set_cons_zero, List.set_cons_succ]))
      (refine wpAnyS_takeL (i := 2) (v := ?_) rfl (by kernel_rfl) (by kernel_rfl) (by kernel_rfl) (by kernel_rfl) (by kernel_rfl) (by kernel_rfl) (fun _ _ _ h => h) (Or.inl ⟨by rfl, ?_⟩) hHeld ?_; rotate_left 1; (focus (intro w' hSw; (try dsimp only at hSw); go_simp; (try with_reducible rfl))); (try simp only [Act.put, List.setIfInBounds_toArray, List.set_cons_zero, List.set_cons_succ]))
      (refine wpAnyS_ready (rs := [3]) (by kernel_rfl) (by simp) ?_; refine AllS.consL rfl (fun K hK => ?_) AllS.nil)
      (go_simp; go_at_call 73; refine (H4.out _ _ _ hs.drew HV.out).mono ?_; rintro e w' ⟨v7, rfl, hv7, hs7⟩; go_wp2_with fail)
      (refine hK.out _ _ ?_ (fun hHeld => ?_); (focus ((try dsimp only); exact hs7.rcell (j := 4) (List.mem_cons_of_mem _ (List.mem_cons_of_mem _ (List.mem_cons_self ..))) rfl)); clear hK K; (try simp only [Act.put, List.setIfInBounds_toArray, List.set_cons_zero, List.set_cons_succ]))
      (refine wpAnyS_ready (rs := [4]) (by kernel_rfl) (by simp) ?_; refine AllS.consL rfl (fun K hK => ?_) AllS.nil)
      go_simp
      (refine hK.out _ _ ?_ (fun hHeld => ?_); (focus ((try dsimp only); exact (hs7.alloc _).rcell (j := 4) (List.mem_cons_of_mem _ (List.mem_cons_of_mem _ (List.mem_cons_self ..))) rfl)); clear hK K; (try simp only [Act.put, List.setIfInBounds_toArray, List.set_cons_zero, List.set_cons_succ]))
      (refine wpAnyS_ready (rs := [5]) (by kernel_rfl) (by simp) ?_; refine AllS.consL rfl (fun K hK => ?_) AllS.nil)
      refine step_app rfl _ _ 24 rfl Try.elStr (by exact (hs7.alloc _).swap) rfl (by exact Sl.one _ _ _) (by intro u hu; simp at hu; subst hu; rfl) (by omega) ?_
      intro v8 w8 hs8 _
      obtain ⟨vo, vc, rfl, _⟩ := id hs8.sl0
      (refine hK.out _ _ ?_ (fun hHeld => ?_); (focus ((try dsimp only); exact hs8.rcell (j := 4) (List.mem_cons_of_mem _ (List.mem_cons_of_mem _ (List.mem_cons_self ..))) rfl)); clear hK K; (try simp only [Act.put, List.setIfInBounds_toArray, List.set_cons_zero, List.set_cons_succ]))
      (refine wpAnyS_seq (by rfl) (by kernel_rfl) ?_; simp only [List.drop_succ_cons, List.drop_zero])
      go_wp2_with ((with_reducible show wpList _ _ _ _ _ _); refine wpl_store1 rfl 24 _ _ rfl (hs8.perm (perm_or _ _ _ _)) (4) rfl (.slice vo (done.length + 1) vc) rfl rfl (by kernel_rfl) (by simp) rfl ?_; intro w9 hs9)
      case roundEnd => exact ⟨⟨i + 1, done ++ [hsh], b4, g4, v7, _, by go_num, by omega, by have := Hd.out; simp; omega, (by show _ = _; rw [HE.out, show n - i = (n - (i + 1)) + 1 by omega, HS.out]; simp), (by have e3 : b4.length ≤ b.length := L4.out.1; omega), hv7, (hs9.perm (perm_ro _ _ _ _)).swap.cast (by simp) (by simp [ss_app]; rfl) |>.swap⟩, by simp [intOf]; omega⟩
end Go.Proofs.Ytlfdnlomlbbicaa

namespace Go.Mx
open Go Go.RowKit
/-- Two results, the first of which lies in a variable of its own. -/
theorem results_cellA2 {P : Program} {fn : Func} {p q : Tmp} {ty : TypeId} (h : fn.results = #[.cell p ty, .tmp q]) (tmps : Array Value) {n : Nat} (A : Ag P ty n) {w : World} {g : Nat} (cs : List Value) (hp : tmps.getD p undef = .pointer (some ⟨g, 0, none⟩)) (hn : cs.length = n)
    (hc : ∀ i u, cs[i]? = some u → w.cell? ⟨g, i, none⟩ = some u) {u : Value} (hq : tmps.getD q undef = u) : (results fn tmps).run P w = .ok (.tuple #[.agg cs.toArray, u]) w := by
  have hp' : tmps[p]?.getD undef = .pointer (some ⟨g, 0, none⟩) := by simpa using hp
  have hq' : tmps[q]?.getD undef = u := by simpa using hq
  simp [results, h, hp', hq', asAddr, run_loadA A hn (g := g) (j := 0) (by simpa using hc)]
theorem perm_zr {α : Type} (d i p z r : α) : [d, i, p, z, r].Perm [z, d, i, p, r] :=
  (List.perm_append_comm (l₁ := [d, i, p]) (l₂ := [z])).append_right [r]
theorem hs_size (s : Src) : (hs s).1.size ≤ 64 := by
  unfold hs
  simp only [str_size, hexL_len]
  have : (tk 32 s).1.length ≤ 32 := by unfold tk; split <;> simp; omega
  omega
theorem rdItems_size : ∀ (n : Nat) (s : Src), ∀ x ∈ (rdItems n s).1, (x.2.1.size ≤ s.1.length ∧ x.2.2.size ≤ 64) ∧ 0 ≤ x.1 ∧ x.1 ≤ 255
  | 0, s, x, h => by cases h
  | n + 1, s, x, h => by
    rw [rdItems] at h
    split at h
    · cases h
    · simp only [List.mem_cons] at h
      have h1 := (on_le s).1
      have h2 := (nm_le (on s).2).1
      have h3 := (tk_le (nm (on s).2).1 (nm (on s).2).2).1
      have h4 := (hs_le (tk (nm (on s).2).1 (nm (on s).2).2).2).1
      rcases h with rfl | h
      · refine ⟨⟨?_, hs_size _⟩, by simp, ?_⟩
        · simp only [str_size]
          have := tk_x (nm (on s).2).1 (nm (on s).2).2
          omega
        · have := on_256 s
          simp only []
          omega
      · have := rdItems_size n _ x h
        refine ⟨⟨by omega, this.1.2⟩, this.2⟩
theorem rdPars_size : ∀ (n : Nat) (s : Src), ∀ x ∈ (rdPars n s).1, x.size ≤ 64
  | 0, s, x, h => by cases h
  | n + 1, s, x, h => by
    rw [rdPars] at h
    split at h
    · cases h
    · simp only [List.mem_cons] at h
      rcases h with rfl | h
      · exact hs_size _
      · exact rdPars_size n _ x h
theorem read_oz (kind : Int) (l : List UInt8) (hl : l.length ≤ 1000000000) : OZ (readO kind l) := by
  have hz : (str []).size ≤ 140737488351232 := by rw [str_size]; simp
  unfold readO
  split
  · exact ⟨hz, hz, by simp, by simp⟩
  · split
    · refine ⟨hz, hz, fun x hx => ?_, by simp⟩
      have h1 := rdItems_size _ _ x hx
      have h2 := (nm_le (l, false)).1
      simp only [] at h2
      exact ⟨by omega, by omega, by omega, by omega⟩
    · split
      · refine ⟨by have := hs_size (l, false); simp only []; omega, ?_, by simp, fun x hx => by have := rdPars_size _ _ x hx; omega⟩
        simp only [str_size]
        have a1 := (hs_le (l, false)).1
        have a2 := (on_le (hs (l, false)).2).1
        have a3 : ∀ n s, (rdPars n s).2.1.length ≤ s.1.length := fun n => by
          induction n with
          | zero => intro s; exact Nat.le_refl _
          | succ n ih =>
            intro s
            rw [rdPars]
            split
            · exact Nat.le_refl _
            · have := ih (hs s).2
              have := (hs_le s).1
              simp only []
              omega
        have a4 := a3 (on (hs (l, false)).2).1 (on (hs (l, false)).2).2
        have a5 := (nm_le (rdPars (on (hs (l, false)).2).1 (on (hs (l, false)).2).2).2).1
        have a6 := (nm_le (nm (rdPars (on (hs (l, false)).2).1 (on (hs (l, false)).2).2).2).2).1
        have a7 := (nm_le (nm (nm (rdPars (on (hs (l, false)).2).1 (on (hs (l, false)).2).2).2).2).2).1
        have a8 := tk_x (nm (nm (nm (rdPars (on (hs (l, false)).2).1 (on (hs (l, false)).2).2).2).2).2).1 (nm (nm (nm (rdPars (on (hs (l, false)).2).1 (on (hs (l, false)).2).2).2).2).2).2
        simp only [] at a1
        omega
      · exact ⟨hz, hz, by simp, by simp⟩
end Go.Mx
namespace Go.Proofs.Ytlfdnlomlbbicaa
open Go.RowKit Go.Mx

theorem read_any (v : Value) (l : List UInt8) (kind : Int) (w : World) (hv : Sl w 1 v l.length (bs l)) (hl : l.length ≤ 1000000000) :
    Calls Try.prog 38 #[.int .i64 kind, v] w (ReadPost w (readO kind l)) := by
  by_cases h1 : kind = 1
  · subst h1; exact read_blob v l w hv (by omega)
  · by_cases h2 : kind = 2
    · subst h2; exact read_tree v l w hv hl
    · by_cases h3 : kind = 3
      · subst h3; exact read_commit v l w hv hl
      · exact read_other v l kind w hv h1 h2 h3

theorem bequal_any (v v' : Value) (l l' : List UInt8) (w : World) (hv : Sl w 1 v l.length (bs l)) (hv' : Sl w 1 v' l'.length (bs l')) :
    Calls Try.prog 39 #[v, v'] w fun e w' => e = .returned (.bool (decide (l = l'))) ∧ w = w' := by
  go_enter Try.func39, Try.ntmps39
  go_wp2_with (first | ((with_reducible show wpList _ _ _ _ _ _); refine wpl_b2s rfl 22 9 5 _ rfl Try.underlying22 Try.underlying5 Try.underlying9 (by exact hv) ?_) | ((with_reducible show wpList _ _ _ _ _ _); refine wpl_b2s rfl 22 9 5 _ rfl Try.underlying22 Try.underlying5 Try.underlying9 (by exact hv') ?_))
  go_ret
  exact ⟨by rw [← str_beq]; rfl, rfl⟩

def DecPost (w : World) (b : List UInt8) (e : Ending) (w' : World) : Prop :=
  ∃ dv iv pv, e = .returned (.tuple #[OV dv iv pv (decO b).1, .int .i64 (decO b).2]) ∧ St w w' (obR dv iv pv (decO b).1) []

set_option maxRecDepth 100000 in
set_option maxHeartbeats 2000000 in
theorem decode_nil (v : Value) (w : World) (hv : Sl w 1 v 0 (bs [])) :
    Calls Try.prog 13 #[v] w (DecPost w []) := by
  obtain ⟨ao, cap, rfl, h1, h2, _⟩ := hv
  have HZ := Mx.hid ((St.refl w).madeAt ([.int .i64 (0), .slice none 0 0, .slice none 0 0, .string (str []), .slice none 0 0, .int .i64 (0), .int .i64 (0), .string (str [])]).toArray 26 8 1 w.heap.size rfl (by simp [maxLen]) rfl)
  go_enter Try.func13, Try.ntmps13
  go_wp2_with ((with_reducible show wpList _ _ _ _ _ _); refine wpl_storeA rfl 26 _ _ rfl Try.aObj HZ.out (0) rfl ([.int .i64 (0), .slice none 0 0, .slice none 0 0, .string (str []), .slice none 0 0, .int .i64 (0), .int .i64 (0), .string (str [])]) rfl (by rfl) (by simp) (by intro u hu; simp at hu; rcases hu with rfl | rfl | rfl | rfl | rfl | rfl | rfl | rfl <;> rfl) ?_; intro w9 hs9)
  replace hs9 := hs9.cast rfl (show _ = [.int .i64 (0), .slice none 0 0, .slice none 0 0, .string (str []), .slice none 0 0, .int .i64 (0), .int .i64 (0), .string (str [])] by simp)
  have hcw : ∀ i u, ([.int .i64 (0), .slice none 0 0, .slice none 0 0, .string (str []), .slice none 0 0, .int .i64 (0), .int .i64 (0), .string (str [])])[i]? = some u → w9.cell? ⟨w.heap.size, i, none⟩ = some u := fun i u h => hs9.rcell (List.mem_cons_self ..) h
  refine bodyPost_ret (v := .tuple #[.agg ([.int .i64 (0), .slice none 0 0, .slice none 0 0, .string (str []), .slice none 0 0, .int .i64 (0), .int .i64 (0), .string (str [])]).toArray, .int .i64 2]) (results_cellA2 Try.results13 _ Try.aObj (g := w.heap.size) ([.int .i64 (0), .slice none 0 0, .slice none 0 0, .string (str []), .slice none 0 0, .int .i64 (0), .int .i64 (0), .string (str [])]) ?_ rfl hcw ?_) ?_ ⟨_, _, _, rfl, ((hs9.bare.addNil _ _).addNil _ _).addNil _ _⟩
  · first | (simp; done) | simp [Act.put]
  · first | (simp; done) | simp [Act.put]
  · first | (simp; done) | simp [Act.put]

/-- A slice that reads as one byte and more. -/
theorem dec_open {w : World} {v : Value} {k : UInt8} {l : List UInt8} (hl : Sl w 1 v (k :: l).length (bs (k :: l))) :
    ∃ (blk off cap : Nat) (xo : Option Addr) (xc : Nat), v = .slice (some ⟨blk, off, none⟩) (l.length + 1) cap ∧ l.length + 1 ≤ cap ∧ cap ≤ maxLen ∧ w.cell? ⟨blk, off, none⟩ = some (.int .u8 (k.toNat : Int)) ∧
      (∀ w', (Instr.sliceAt 22 v (some (.int .i64 1)) none none).run Try.prog w' = .ok (.slice xo l.length xc) w') ∧ Sl w 1 (.slice xo l.length xc) l.length (bs l) := by
  obtain ⟨x, p1, q1⟩ := hl.cutRun Try.elU8 (some (.int .i64 ((1 : Nat) : Int))) none 1 (k :: l).length (.inr ⟨.i64, rfl⟩) (.inl ⟨rfl, rfl⟩) (by simp) (Nat.le_refl _)
  have hx := Sl.cutB (q1 _ hl) (Nat.le_refl _) (by simp)
  rw [List.take_length] at hx
  obtain ⟨xo, xc, rfl, _⟩ := id hx
  obtain ⟨ao, cap, rfl, h1, h2, _, hc⟩ := hl.bytes
  obtain ⟨blk, off, rfl, hcell⟩ := hc (by simp)
  exact ⟨blk, off, cap, xo, xc, rfl, h1, h2, hcell 0 (by simp), p1, hx⟩

/-- What Encode leaves, seen from an object in memory. -/
theorem enc_from {w w' : World} {R : List Row} {dv iv pv : Value} {o : Ob} (hs : St w w' (obR dv iv pv o ++ R) []) (hz : OZ o) : Calls Try.prog 10 #[OV dv iv pv o] w' (EncPost w' o) :=
  have h : St w w' (⟨dv, 5, 1, o.data.length, bs o.data⟩ :: ⟨iv, 65, 3, o.items.length, itms o.items⟩ :: ⟨pv, 9, 1, o.parents.length, ss o.parents⟩ :: R) [] := hs
  encode_any dv iv pv o w' ⟨h.sl0, h.sl1, h.sl2⟩ hz

set_option maxRecDepth 100000 in
set_option maxHeartbeats 4000000 in
theorem decode_cons (v : Value) (k : UInt8) (r : List UInt8) (w : World) (hv : Sl w 1 v (k :: r).length (bs (k :: r))) (hl : (k :: r).length ≤ 1000000000) :
    Calls Try.prog 13 #[v] w (DecPost w (k :: r)) := by
  have HQ : Hid (∀ o, readO (k.toNat : Int) r = o → decO (k :: r) = if mayB o = true ∧ encL o = k :: r then (o, 0) else (noOb, 4)) := fun o h => by subst h; rfl
  have hrl : r.length ≤ 1000000000 := by simp at hl; omega
  have hoz := read_oz (k.toNat : Int) r hrl
  obtain ⟨blk, off, cap, xo, xc, rfl, h1, h2, c0, p1, hx⟩ := dec_open hv
  have HX := Mx.hid hx
  have HR := Mx.hid (fun wx (h : St w wx [] []) => read_any _ r (k.toNat : Int) wx (h.old hx) hrl)
  have HV := Mx.hid hv
  have HZ := Mx.hid ((St.refl w).madeAt ([.int .i64 (0), .slice none 0 0, .slice none 0 0, .string (str []), .slice none 0 0, .int .i64 (0), .int .i64 (0), .string (str [])]).toArray 26 8 1 w.heap.size rfl (by simp [maxLen]) rfl)
  have hk := u8_lt k
  have hw64 : wrap64 (k.toNat : Int) = (k.toNat : Int) := by unfold wrap64; omega
  unfold maxLen at h2
  have HW : Hid (∀ w' R Q, St w w' R Q → w'.cell? ⟨blk, off, none⟩ = some (.int .u8 (k.toNat : Int))) := fun w' R Q h => h.keep c0
  have hww : IntKind.i64.wrap (k.toNat : Int) = (k.toNat : Int) := IntWalk.i64_in _ (by omega)
  generalize readO (k.toNat : Int) r = o at *
  have HQ2 := Mx.hid (HQ.out o rfl)
  clear hv hx HQ hl hrl
  generalize r.length = rl at *
  generalize (k.toNat : Int) = kk at *
  have HEN := Mx.hid (fun wx dv iv pv R (hs : St w wx (obR dv iv pv o ++ R) []) => enc_from hs hoz)
  obtain ⟨okind, odata, oitems, otree, oparents, ostamp, oauthor, omsg⟩ := o
  unfold EncPost at HEN
  cases hm : mayB ⟨okind, odata, oitems, otree, oparents, ostamp, oauthor, omsg⟩ with
  | false =>
    rw [hm] at HEN HQ2
    have HF := Mx.hid (show decO (k :: r) = (noOb, 4) by rw [HQ2.out, if_neg (by simp)])
    clear hoz HQ2 hm
    go_enter Try.func13, Try.ntmps13
    go_wp2_with fail
    (refine wp_region_S (8) (fun W' => W'.cell? ⟨blk, off, none⟩ = some (.int .u8 kk)) (by kernel_rfl) ?_ (fun hHeld => ?_); (focus ((try dsimp only); exact HW.out _ _ _ HZ.out.drew)))
    (refine wpAnyS_takeL (i := 0) (v := ?_) rfl (by kernel_rfl) (by kernel_rfl) (by kernel_rfl) (by kernel_rfl) (by kernel_rfl) (by kernel_rfl) (fun _ _ _ h => h) (Or.inl ⟨by rfl, ?_⟩) hHeld ?_; rotate_left 1; (focus (intro w' hSw; (try dsimp only at hSw); go_simp; (try with_reducible rfl))); (try simp only [Act.put, List.setIfInBounds_toArray, List.set_cons_zero, List.set_cons_succ]))
    (refine wpAnyS_takeW (i := 1) (v := ?_) rfl (by kernel_rfl) (by kernel_rfl) (by kernel_rfl) (by kernel_rfl) (fun _ _ _ h => h) (Or.inl ⟨by rfl, ?_⟩) hHeld ?_; rotate_left 1; (focus (intro w' hSw; go_simp; (try with_reducible rfl))); (try simp only [Act.put, List.setIfInBounds_toArray, List.set_cons_zero, List.set_cons_succ]))
    (refine wpAnyS_takeL (i := 2) (v := ?_) rfl (by kernel_rfl) (by kernel_rfl) (by kernel_rfl) (by kernel_rfl) (by kernel_rfl) (by kernel_rfl) (fun _ _ _ h => h) (Or.inl ⟨by rfl, ?_⟩) hHeld ?_; rotate_left 1; (focus (intro w' hSw; (try dsimp only at hSw); go_simp; (try with_reducible rfl))); (try simp only [Act.put, List.setIfInBounds_toArray, List.set_cons_zero, List.set_cons_succ]))
    (refine wpAnyS_takeW (i := 3) (v := ?_) rfl (by kernel_rfl) (by kernel_rfl) (by kernel_rfl) (by kernel_rfl) (fun _ _ _ h => h) (Or.inl ⟨by rfl, ?_⟩) hHeld ?_; rotate_left 1; (focus (intro w' hSw; go_simp; (try with_reducible rfl))); (try simp only [Act.put, List.setIfInBounds_toArray, List.set_cons_zero, List.set_cons_succ]))
    (refine wpAnyS_takeW (i := 4) (v := ?_) rfl (by kernel_rfl) (by kernel_rfl) (by kernel_rfl) (by kernel_rfl) (fun _ _ _ h => h) (Or.inl ⟨by rfl, ?_⟩) hHeld ?_; rotate_left 1; (focus (intro w' hSw; go_simp; (try with_reducible rfl))); (try simp only [Act.put, List.setIfInBounds_toArray, List.set_cons_zero, List.set_cons_succ]))
    (refine wpAnyS_takeW (i := 5) (v := ?_) rfl (by kernel_rfl) (by kernel_rfl) (by kernel_rfl) (by kernel_rfl) (fun _ _ _ h => h) (Or.inl ⟨by rfl, ?_⟩) hHeld ?_; rotate_left 1; (focus (intro w' hSw; go_simp; (try with_reducible rfl))); (try simp only [Act.put, List.setIfInBounds_toArray, List.set_cons_zero, List.set_cons_succ]))
    refine wpAnyS_ready (rs := [6, 7]) (by kernel_rfl) (by simp) ?_
    refine AllS.consL rfl (fun K hK => ?_) (AllS.consL rfl (fun K hK => ?_) AllS.nil)
    · (go_simp; go_at_call 38; refine (HR.out _ HZ.out.drew.bare).mono ?_; rintro e w3 ⟨dv, iv, pv, rfl, hk3⟩; obtain ⟨da, dc, rfl, _⟩ := id hk3.sl0; obtain ⟨ia, ic, rfl, _⟩ := id hk3.sl1; obtain ⟨pa, pc, rfl, _⟩ := id hk3.sl2; have hs3 := HZ.out.drew.call hk3; go_wp2_with fail)
      (refine hK.out _ _ ?_ (fun hHeld => ?_); (focus ((try dsimp only); exact HW.out _ _ _ hs3)); clear hK K; (try simp only [Act.put, List.setIfInBounds_toArray, List.set_cons_zero, List.set_cons_succ]))
      (refine wpAnyS_ready (rs := [7]) (by kernel_rfl) (by simp) ?_; refine AllS.consL rfl (fun K hK => ?_) AllS.nil)
      go_simp
      have hs4 := hs3.madeAt ([.int .i64 (0), .slice none 0 0, .slice none 0 0, .string (str []), .slice none 0 0, .int .i64 (0), .int .i64 (0), .string (str [])]).toArray 26 8 1 w3.heap.size rfl (by simp [maxLen]) rfl
      (refine hK.out _ _ ?_ (fun hHeld => ?_); (focus ((try dsimp only); exact HW.out _ _ _ hs4)); clear hK K; (try simp only [Act.put, List.setIfInBounds_toArray, List.set_cons_zero, List.set_cons_succ]))
      (refine wpAnyS_seq (by rfl) (by kernel_rfl) ?_; simp only [List.drop_succ_cons, List.drop_zero])
      generalize w3.heap.size = gz at *
      go_wp2_with (first | ((with_reducible show wpList _ _ _ _ _ _); refine wpl_want rfl ?_) | (((with_reducible show wpList _ _ _ _ _ _); refine wpl_storeA rfl 26 _ _ rfl Try.aObj hs4 (0) rfl ([.int .i64 okind, .slice da odata.length dc, .slice ia oitems.length ic, .string otree, .slice pa oparents.length pc, .int .i64 ostamp, .int .i64 oauthor, .string omsg]) rfl (by rfl) (by simp) (by intro u hu; simp at hu; rcases hu with rfl | rfl | rfl | rfl | rfl | rfl | rfl | rfl <;> rfl) ?_; intro w5 hs5); replace hs5 := hs5.cast rfl (show _ = [.int .i64 okind, .slice da odata.length dc, .slice ia oitems.length ic, .string otree, .slice pa oparents.length pc, .int .i64 ostamp, .int .i64 oauthor, .string omsg] by simp)) | ((with_reducible show wpList _ _ _ _ _ _); refine wpl_loadA rfl 26 _ rfl Try.aObj (gz) (0) rfl ([.int .i64 okind, .slice da odata.length dc, .slice ia oitems.length ic, .string otree, .slice pa oparents.length pc, .int .i64 ostamp, .int .i64 oauthor, .string omsg]) rfl (fun i u h => by rw [Nat.zero_add]; exact hs5.rcell (List.mem_cons_self ..) h) ?_) | (go_at_call 10; refine (HEN.out _ _ _ _ _ hs5.tail).mono ?_; rintro e w6 ⟨rfl, hk6⟩; have hs6 := hs5.call0 hk6) | ((with_reducible show wpList _ _ _ _ _ _); refine wpl_storeA rfl 26 _ _ rfl Try.aObj (hs6.perm (R' := [_, _, _, _, _]) (List.perm_append_comm (l₁ := [_, _, _, _]) (l₂ := [_]))) (0) rfl ([.int .i64 (0), .slice none 0 0, .slice none 0 0, .string (str []), .slice none 0 0, .int .i64 (0), .int .i64 (0), .string (str [])]) rfl (by rfl) (by simp) (by intro u hu; simp at hu; rcases hu with rfl | rfl | rfl | rfl | rfl | rfl | rfl | rfl <;> rfl) ?_; intro w9 hs9))
      replace hs9 := hs9.cast rfl (show _ = [.int .i64 (0), .slice none 0 0, .slice none 0 0, .string (str []), .slice none 0 0, .int .i64 (0), .int .i64 (0), .string (str [])] by simp)
      have hcw : ∀ i u, ([.int .i64 (0), .slice none 0 0, .slice none 0 0, .string (str []), .slice none 0 0, .int .i64 (0), .int .i64 (0), .string (str [])])[i]? = some u → w9.cell? ⟨w.heap.size, i, none⟩ = some u := fun i u h => hs9.rcell (List.mem_cons_self ..) h
      refine bodyPost_ret (v := .tuple #[.agg ([.int .i64 (0), .slice none 0 0, .slice none 0 0, .string (str []), .slice none 0 0, .int .i64 (0), .int .i64 (0), .string (str [])]).toArray, .int .i64 4]) (results_cellA2 Try.results13 _ Try.aObj (g := w.heap.size) ([.int .i64 (0), .slice none 0 0, .slice none 0 0, .string (str []), .slice none 0 0, .int .i64 (0), .int .i64 (0), .string (str [])]) ?_ rfl hcw ?_) ?_ ⟨_, _, _, by rw [HF.out]; rfl, by rw [HF.out]; exact ((hs9.bare.addNil _ _).addNil _ _).addNil _ _⟩
      · first | (simp; done) | simp [Act.put]
      · first | (simp; done) | simp [Act.put]
      · first | (simp; done) | simp [Act.put]
    · go_simp
      have HZ2 := Mx.hid (HZ.out.madeAt ([.int .i64 (0), .slice none 0 0, .slice none 0 0, .string (str []), .slice none 0 0, .int .i64 (0), .int .i64 (0), .string (str [])]).toArray 26 8 1 (w.heap.size + 1) rfl (by simp [maxLen]) (by rw [heap_size_alloc])).drew
      (refine hK.out _ _ ?_ (fun hHeld => ?_); (focus ((try dsimp only); exact HW.out _ _ _ HZ2.out)); clear hK K; (try simp only [Act.put, List.setIfInBounds_toArray, List.set_cons_zero, List.set_cons_succ]))
      (refine wpAnyS_ready (rs := [6]) (by kernel_rfl) (by simp) ?_; refine AllS.consL rfl (fun K hK => ?_) AllS.nil)
      (go_simp; go_at_call 38; refine (HR.out _ HZ2.out.bare).mono ?_; rintro e w3 ⟨dv, iv, pv, rfl, hk3⟩; obtain ⟨da, dc, rfl, _⟩ := id hk3.sl0; obtain ⟨ia, ic, rfl, _⟩ := id hk3.sl1; obtain ⟨pa, pc, rfl, _⟩ := id hk3.sl2; have hs3 := HZ2.out.call hk3; go_wp2_with fail)
      replace hs3 := hs3.perm (perm_zr _ _ _ _ _)
      have hs4 := hs3
      (refine hK.out _ _ ?_ (fun hHeld => ?_); (focus ((try dsimp only); exact HW.out _ _ _ hs3)); clear hK K; (try simp only [Act.put, List.setIfInBounds_toArray, List.set_cons_zero, List.set_cons_succ]))
      (refine wpAnyS_seq (by rfl) (by kernel_rfl) ?_; simp only [List.drop_succ_cons, List.drop_zero])
      clear hs3
      generalize w.heap.size + 1 = gz at hs4 ⊢
      go_wp2_with (first | ((with_reducible show wpList _ _ _ _ _ _); refine wpl_want rfl ?_) | (((with_reducible show wpList _ _ _ _ _ _); refine wpl_storeA rfl 26 _ _ rfl Try.aObj hs4 (0) rfl ([.int .i64 okind, .slice da odata.length dc, .slice ia oitems.length ic, .string otree, .slice pa oparents.length pc, .int .i64 ostamp, .int .i64 oauthor, .string omsg]) rfl (by rfl) (by simp) (by intro u hu; simp at hu; rcases hu with rfl | rfl | rfl | rfl | rfl | rfl | rfl | rfl <;> rfl) ?_; intro w5 hs5); replace hs5 := hs5.cast rfl (show _ = [.int .i64 okind, .slice da odata.length dc, .slice ia oitems.length ic, .string otree, .slice pa oparents.length pc, .int .i64 ostamp, .int .i64 oauthor, .string omsg] by simp)) | ((with_reducible show wpList _ _ _ _ _ _); refine wpl_loadA rfl 26 _ rfl Try.aObj (gz) (0) rfl ([.int .i64 okind, .slice da odata.length dc, .slice ia oitems.length ic, .string otree, .slice pa oparents.length pc, .int .i64 ostamp, .int .i64 oauthor, .string omsg]) rfl (fun i u h => by rw [Nat.zero_add]; exact hs5.rcell (List.mem_cons_self ..) h) ?_) | (go_at_call 10; refine (HEN.out _ _ _ _ _ hs5.tail).mono ?_; rintro e w6 ⟨rfl, hk6⟩; have hs6 := hs5.call0 hk6) | ((with_reducible show wpList _ _ _ _ _ _); refine wpl_storeA rfl 26 _ _ rfl Try.aObj (hs6.perm (R' := [_, _, _, _, _]) (List.perm_append_comm (l₁ := [_, _, _, _]) (l₂ := [_]))) (0) rfl ([.int .i64 (0), .slice none 0 0, .slice none 0 0, .string (str []), .slice none 0 0, .int .i64 (0), .int .i64 (0), .string (str [])]) rfl (by rfl) (by simp) (by intro u hu; simp at hu; rcases hu with rfl | rfl | rfl | rfl | rfl | rfl | rfl | rfl <;> rfl) ?_; intro w9 hs9))
      replace hs9 := hs9.cast rfl (show _ = [.int .i64 (0), .slice none 0 0, .slice none 0 0, .string (str []), .slice none 0 0, .int .i64 (0), .int .i64 (0), .string (str [])] by simp)
      have hcw : ∀ i u, ([.int .i64 (0), .slice none 0 0, .slice none 0 0, .string (str []), .slice none 0 0, .int .i64 (0), .int .i64 (0), .string (str [])])[i]? = some u → w9.cell? ⟨w.heap.size, i, none⟩ = some u := fun i u h => hs9.rcell (List.mem_cons_self ..) h
      refine bodyPost_ret (v := .tuple #[.agg ([.int .i64 (0), .slice none 0 0, .slice none 0 0, .string (str []), .slice none 0 0, .int .i64 (0), .int .i64 (0), .string (str [])]).toArray, .int .i64 4]) (results_cellA2 Try.results13 _ Try.aObj (g := w.heap.size) ([.int .i64 (0), .slice none 0 0, .slice none 0 0, .string (str []), .slice none 0 0, .int .i64 (0), .int .i64 (0), .string (str [])]) ?_ rfl hcw ?_) ?_ ⟨_, _, _, by rw [HF.out]; rfl, by rw [HF.out]; exact ((hs9.bare.addNil _ _).addNil _ _).addNil _ _⟩
      · first | (simp; done) | simp [Act.put]
      · first | (simp; done) | simp [Act.put]
      · first | (simp; done) | simp [Act.put]
  | true =>
    rw [hm] at HEN HQ2
    by_cases hb : encL ⟨okind, odata, oitems, otree, oparents, ostamp, oauthor, omsg⟩ = k :: r
    · have HF := Mx.hid (show decO (k :: r) = (⟨okind, odata, oitems, otree, oparents, ostamp, oauthor, omsg⟩, 0) by rw [HQ2.out, if_pos ⟨rfl, hb⟩])
      have hbd := decide_eq_true hb
      clear hoz HQ2 hm
      generalize hEL : encL ⟨okind, odata, oitems, otree, oparents, ostamp, oauthor, omsg⟩ = EL at *
      have HEL := Mx.hid hEL
      have HB := Mx.hid hb
      clear hEL hb
      go_enter Try.func13, Try.ntmps13
      go_wp2_with fail
      (refine wp_region_S (8) (fun W' => W'.cell? ⟨blk, off, none⟩ = some (.int .u8 kk)) (by kernel_rfl) ?_ (fun hHeld => ?_); (focus ((try dsimp only); exact HW.out _ _ _ HZ.out.drew)))
      (refine wpAnyS_takeL (i := 0) (v := ?_) rfl (by kernel_rfl) (by kernel_rfl) (by kernel_rfl) (by kernel_rfl) (by kernel_rfl) (by kernel_rfl) (fun _ _ _ h => h) (Or.inl ⟨by rfl, ?_⟩) hHeld ?_; rotate_left 1; (focus (intro w' hSw; (try dsimp only at hSw); go_simp; (try with_reducible rfl))); (try simp only [Act.put, List.setIfInBounds_toArray, List.set_cons_zero, List.set_cons_succ]))
      (refine wpAnyS_takeW (i := 1) (v := ?_) rfl (by kernel_rfl) (by kernel_rfl) (by kernel_rfl) (by kernel_rfl) (fun _ _ _ h => h) (Or.inl ⟨by rfl, ?_⟩) hHeld ?_; rotate_left 1; (focus (intro w' hSw; go_simp; (try with_reducible rfl))); (try simp only [Act.put, List.setIfInBounds_toArray, List.set_cons_zero, List.set_cons_succ]))
      (refine wpAnyS_takeL (i := 2) (v := ?_) rfl (by kernel_rfl) (by kernel_rfl) (by kernel_rfl) (by kernel_rfl) (by kernel_rfl) (by kernel_rfl) (fun _ _ _ h => h) (Or.inl ⟨by rfl, ?_⟩) hHeld ?_; rotate_left 1; (focus (intro w' hSw; (try dsimp only at hSw); go_simp; (try with_reducible rfl))); (try simp only [Act.put, List.setIfInBounds_toArray, List.set_cons_zero, List.set_cons_succ]))
      (refine wpAnyS_takeW (i := 3) (v := ?_) rfl (by kernel_rfl) (by kernel_rfl) (by kernel_rfl) (by kernel_rfl) (fun _ _ _ h => h) (Or.inl ⟨by rfl, ?_⟩) hHeld ?_; rotate_left 1; (focus (intro w' hSw; go_simp; (try with_reducible rfl))); (try simp only [Act.put, List.setIfInBounds_toArray, List.set_cons_zero, List.set_cons_succ]))
      (refine wpAnyS_takeW (i := 4) (v := ?_) rfl (by kernel_rfl) (by kernel_rfl) (by kernel_rfl) (by kernel_rfl) (fun _ _ _ h => h) (Or.inl ⟨by rfl, ?_⟩) hHeld ?_; rotate_left 1; (focus (intro w' hSw; go_simp; (try with_reducible rfl))); (try simp only [Act.put, List.setIfInBounds_toArray, List.set_cons_zero, List.set_cons_succ]))
      (refine wpAnyS_takeW (i := 5) (v := ?_) rfl (by kernel_rfl) (by kernel_rfl) (by kernel_rfl) (by kernel_rfl) (fun _ _ _ h => h) (Or.inl ⟨by rfl, ?_⟩) hHeld ?_; rotate_left 1; (focus (intro w' hSw; go_simp; (try with_reducible rfl))); (try simp only [Act.put, List.setIfInBounds_toArray, List.set_cons_zero, List.set_cons_succ]))
      refine wpAnyS_ready (rs := [6, 7]) (by kernel_rfl) (by simp) ?_
      refine AllS.consL rfl (fun K hK => ?_) (AllS.consL rfl (fun K hK => ?_) AllS.nil)
      · (go_simp; go_at_call 38; refine (HR.out _ HZ.out.drew.bare).mono ?_; rintro e w3 ⟨dv, iv, pv, rfl, hk3⟩; obtain ⟨da, dc, rfl, _⟩ := id hk3.sl0; obtain ⟨ia, ic, rfl, _⟩ := id hk3.sl1; obtain ⟨pa, pc, rfl, _⟩ := id hk3.sl2; have hs3 := HZ.out.drew.call hk3; go_wp2_with fail)
        (refine hK.out _ _ ?_ (fun hHeld => ?_); (focus ((try dsimp only); exact HW.out _ _ _ hs3)); clear hK K; (try simp only [Act.put, List.setIfInBounds_toArray, List.set_cons_zero, List.set_cons_succ]))
        (refine wpAnyS_ready (rs := [7]) (by kernel_rfl) (by simp) ?_; refine AllS.consL rfl (fun K hK => ?_) AllS.nil)
        go_simp
        have hs4 := hs3.madeAt ([.int .i64 (0), .slice none 0 0, .slice none 0 0, .string (str []), .slice none 0 0, .int .i64 (0), .int .i64 (0), .string (str [])]).toArray 26 8 1 w3.heap.size rfl (by simp [maxLen]) rfl
        (refine hK.out _ _ ?_ (fun hHeld => ?_); (focus ((try dsimp only); exact HW.out _ _ _ hs4)); clear hK K; (try simp only [Act.put, List.setIfInBounds_toArray, List.set_cons_zero, List.set_cons_succ]))
        (refine wpAnyS_seq (by rfl) (by kernel_rfl) ?_; simp only [List.drop_succ_cons, List.drop_zero])
        generalize w3.heap.size = gz at *
        go_wp2_with (first | ((with_reducible show wpList _ _ _ _ _ _); refine wpl_want rfl ?_) | (((with_reducible show wpList _ _ _ _ _ _); refine wpl_storeA rfl 26 _ _ rfl Try.aObj hs4 (0) rfl ([.int .i64 okind, .slice da odata.length dc, .slice ia oitems.length ic, .string otree, .slice pa oparents.length pc, .int .i64 ostamp, .int .i64 oauthor, .string omsg]) rfl (by rfl) (by simp) (by intro u hu; simp at hu; rcases hu with rfl | rfl | rfl | rfl | rfl | rfl | rfl | rfl <;> rfl) ?_; intro w5 hs5); replace hs5 := hs5.cast rfl (show _ = [.int .i64 okind, .slice da odata.length dc, .slice ia oitems.length ic, .string otree, .slice pa oparents.length pc, .int .i64 ostamp, .int .i64 oauthor, .string omsg] by simp)) | ((with_reducible show wpList _ _ _ _ _ _); refine wpl_loadA rfl 26 _ rfl Try.aObj (gz) (0) rfl ([.int .i64 okind, .slice da odata.length dc, .slice ia oitems.length ic, .string otree, .slice pa oparents.length pc, .int .i64 ostamp, .int .i64 oauthor, .string omsg]) rfl (fun i u h => by rw [Nat.zero_add]; exact hs5.rcell (List.mem_cons_self ..) h) ?_) | (go_at_call 10; refine (HEN.out _ _ _ _ _ hs5.tail).mono ?_; rintro e w6 ⟨xv, rfl, hk6⟩; obtain ⟨xa, xb, rfl, _⟩ := id hk6.sl0; have hs6 := hs5.call1 hk6) | (go_at_call 39; refine (bequal_any _ _ _ _ _ (hs6.sl0) (hs6.old HV.out)).mono ?_; rintro e w7 ⟨rfl, rfl⟩) | ((with_reducible show wpList _ _ _ _ _ _); refine wpl_loadA rfl 26 _ rfl Try.aObj (gz) (0) rfl ([.int .i64 okind, .slice da odata.length dc, .slice ia oitems.length ic, .string otree, .slice pa oparents.length pc, .int .i64 ostamp, .int .i64 oauthor, .string omsg]) rfl (fun i u h => by rw [Nat.zero_add]; exact hs6.rcell (List.mem_cons_of_mem _ (List.mem_cons_self ..)) h) ?_) | ((with_reducible show wpList _ _ _ _ _ _); refine wpl_storeA rfl 26 _ _ rfl Try.aObj (hs6.perm (R' := [_, _, _, _, _, _]) (List.perm_append_comm (l₁ := [_, _, _, _, _]) (l₂ := [_]))) (0) rfl ([.int .i64 okind, .slice da odata.length dc, .slice ia oitems.length ic, .string otree, .slice pa oparents.length pc, .int .i64 ostamp, .int .i64 oauthor, .string omsg]) rfl (by rfl) (by simp) (by intro u hu; simp at hu; rcases hu with rfl | rfl | rfl | rfl | rfl | rfl | rfl | rfl <;> rfl) ?_; intro w9 hs9))
        replace hs9 := hs9.cast rfl (show _ = [.int .i64 okind, .slice da odata.length dc, .slice ia oitems.length ic, .string otree, .slice pa oparents.length pc, .int .i64 ostamp, .int .i64 oauthor, .string omsg] by simp)
        have hcw : ∀ i u, ([.int .i64 okind, .slice da odata.length dc, .slice ia oitems.length ic, .string otree, .slice pa oparents.length pc, .int .i64 ostamp, .int .i64 oauthor, .string omsg])[i]? = some u → w9.cell? ⟨w.heap.size, i, none⟩ = some u := fun i u h => hs9.rcell (List.mem_cons_self ..) h
        refine bodyPost_ret (v := .tuple #[.agg ([.int .i64 okind, .slice da odata.length dc, .slice ia oitems.length ic, .string otree, .slice pa oparents.length pc, .int .i64 ostamp, .int .i64 oauthor, .string omsg]).toArray, .int .i64 0]) (results_cellA2 Try.results13 _ Try.aObj (g := w.heap.size) ([.int .i64 okind, .slice da odata.length dc, .slice ia oitems.length ic, .string otree, .slice pa oparents.length pc, .int .i64 ostamp, .int .i64 oauthor, .string omsg]) ?_ rfl hcw ?_) ?_ ⟨_, _, _, by rw [HF.out]; rfl, by rw [HF.out]; exact hs9.tail.tail.tail⟩
        · first | (simp; done) | simp [Act.put]
        · first | (simp; done) | simp [Act.put]
        · first | (simp; done) | simp [Act.put]
      · go_simp
        have HZ2 := Mx.hid (HZ.out.madeAt ([.int .i64 (0), .slice none 0 0, .slice none 0 0, .string (str []), .slice none 0 0, .int .i64 (0), .int .i64 (0), .string (str [])]).toArray 26 8 1 (w.heap.size + 1) rfl (by simp [maxLen]) (by rw [heap_size_alloc])).drew
        (refine hK.out _ _ ?_ (fun hHeld => ?_); (focus ((try dsimp only); exact HW.out _ _ _ HZ2.out)); clear hK K; (try simp only [Act.put, List.setIfInBounds_toArray, List.set_cons_zero, List.set_cons_succ]))
        (refine wpAnyS_ready (rs := [6]) (by kernel_rfl) (by simp) ?_; refine AllS.consL rfl (fun K hK => ?_) AllS.nil)
        (go_simp; go_at_call 38; refine (HR.out _ HZ2.out.bare).mono ?_; rintro e w3 ⟨dv, iv, pv, rfl, hk3⟩; obtain ⟨da, dc, rfl, _⟩ := id hk3.sl0; obtain ⟨ia, ic, rfl, _⟩ := id hk3.sl1; obtain ⟨pa, pc, rfl, _⟩ := id hk3.sl2; have hs3 := HZ2.out.call hk3; go_wp2_with fail)
        replace hs3 := hs3.perm (perm_zr _ _ _ _ _)
        have hs4 := hs3
        (refine hK.out _ _ ?_ (fun hHeld => ?_); (focus ((try dsimp only); exact HW.out _ _ _ hs3)); clear hK K; (try simp only [Act.put, List.setIfInBounds_toArray, List.set_cons_zero, List.set_cons_succ]))
        (refine wpAnyS_seq (by rfl) (by kernel_rfl) ?_; simp only [List.drop_succ_cons, List.drop_zero])
        clear hs3
        generalize w.heap.size + 1 = gz at hs4 ⊢
        go_wp2_with (first | ((with_reducible show wpList _ _ _ _ _ _); refine wpl_want rfl ?_) | (((with_reducible show wpList _ _ _ _ _ _); refine wpl_storeA rfl 26 _ _ rfl Try.aObj hs4 (0) rfl ([.int .i64 okind, .slice da odata.length dc, .slice ia oitems.length ic, .string otree, .slice pa oparents.length pc, .int .i64 ostamp, .int .i64 oauthor, .string omsg]) rfl (by rfl) (by simp) (by intro u hu; simp at hu; rcases hu with rfl | rfl | rfl | rfl | rfl | rfl | rfl | rfl <;> rfl) ?_; intro w5 hs5); replace hs5 := hs5.cast rfl (show _ = [.int .i64 okind, .slice da odata.length dc, .slice ia oitems.length ic, .string otree, .slice pa oparents.length pc, .int .i64 ostamp, .int .i64 oauthor, .string omsg] by simp)) | ((with_reducible show wpList _ _ _ _ _ _); refine wpl_loadA rfl 26 _ rfl Try.aObj (gz) (0) rfl ([.int .i64 okind, .slice da odata.length dc, .slice ia oitems.length ic, .string otree, .slice pa oparents.length pc, .int .i64 ostamp, .int .i64 oauthor, .string omsg]) rfl (fun i u h => by rw [Nat.zero_add]; exact hs5.rcell (List.mem_cons_self ..) h) ?_) | (go_at_call 10; refine (HEN.out _ _ _ _ _ hs5.tail).mono ?_; rintro e w6 ⟨xv, rfl, hk6⟩; obtain ⟨xa, xb, rfl, _⟩ := id hk6.sl0; have hs6 := hs5.call1 hk6) | (go_at_call 39; refine (bequal_any _ _ _ _ _ (hs6.sl0) (hs6.old HV.out)).mono ?_; rintro e w7 ⟨rfl, rfl⟩) | ((with_reducible show wpList _ _ _ _ _ _); refine wpl_loadA rfl 26 _ rfl Try.aObj (gz) (0) rfl ([.int .i64 okind, .slice da odata.length dc, .slice ia oitems.length ic, .string otree, .slice pa oparents.length pc, .int .i64 ostamp, .int .i64 oauthor, .string omsg]) rfl (fun i u h => by rw [Nat.zero_add]; exact hs6.rcell (List.mem_cons_of_mem _ (List.mem_cons_self ..)) h) ?_) | ((with_reducible show wpList _ _ _ _ _ _); refine wpl_storeA rfl 26 _ _ rfl Try.aObj (hs6.perm (R' := [_, _, _, _, _, _]) (List.perm_append_comm (l₁ := [_, _, _, _, _]) (l₂ := [_]))) (0) rfl ([.int .i64 okind, .slice da odata.length dc, .slice ia oitems.length ic, .string otree, .slice pa oparents.length pc, .int .i64 ostamp, .int .i64 oauthor, .string omsg]) rfl (by rfl) (by simp) (by intro u hu; simp at hu; rcases hu with rfl | rfl | rfl | rfl | rfl | rfl | rfl | rfl <;> rfl) ?_; intro w9 hs9))
        replace hs9 := hs9.cast rfl (show _ = [.int .i64 okind, .slice da odata.length dc, .slice ia oitems.length ic, .string otree, .slice pa oparents.length pc, .int .i64 ostamp, .int .i64 oauthor, .string omsg] by simp)
        have hcw : ∀ i u, ([.int .i64 okind, .slice da odata.length dc, .slice ia oitems.length ic, .string otree, .slice pa oparents.length pc, .int .i64 ostamp, .int .i64 oauthor, .string omsg])[i]? = some u → w9.cell? ⟨w.heap.size, i, none⟩ = some u := fun i u h => hs9.rcell (List.mem_cons_self ..) h
        refine bodyPost_ret (v := .tuple #[.agg ([.int .i64 okind, .slice da odata.length dc, .slice ia oitems.length ic, .string otree, .slice pa oparents.length pc, .int .i64 ostamp, .int .i64 oauthor, .string omsg]).toArray, .int .i64 0]) (results_cellA2 Try.results13 _ Try.aObj (g := w.heap.size) ([.int .i64 okind, .slice da odata.length dc, .slice ia oitems.length ic, .string otree, .slice pa oparents.length pc, .int .i64 ostamp, .int .i64 oauthor, .string omsg]) ?_ rfl hcw ?_) ?_ ⟨_, _, _, by rw [HF.out]; rfl, by rw [HF.out]; exact hs9.tail.tail.tail⟩
        · first | (simp; done) | simp [Act.put]
        · first | (simp; done) | simp [Act.put]
        · first | (simp; done) | simp [Act.put]
    · have HF := Mx.hid (show decO (k :: r) = (noOb, 4) by rw [HQ2.out, if_neg (fun h => hb h.2)])
      have hbd := decide_eq_false hb
      clear hoz HQ2 hm
      generalize hEL : encL ⟨okind, odata, oitems, otree, oparents, ostamp, oauthor, omsg⟩ = EL at *
      have HEL := Mx.hid hEL
      have HB := Mx.hid hb
      clear hEL hb
      go_enter Try.func13, Try.ntmps13
      go_wp2_with fail
      (refine wp_region_S (8) (fun W' => W'.cell? ⟨blk, off, none⟩ = some (.int .u8 kk)) (by kernel_rfl) ?_ (fun hHeld => ?_); (focus ((try dsimp only); exact HW.out _ _ _ HZ.out.drew)))
      (refine wpAnyS_takeL (i := 0) (v := ?_) rfl (by kernel_rfl) (by kernel_rfl) (by kernel_rfl) (by kernel_rfl) (by kernel_rfl) (by kernel_rfl) (fun _ _ _ h => h) (Or.inl ⟨by rfl, ?_⟩) hHeld ?_; rotate_left 1; (focus (intro w' hSw; (try dsimp only at hSw); go_simp; (try with_reducible rfl))); (try simp only [Act.put, List.setIfInBounds_toArray, List.set_cons_zero, List.set_cons_succ]))
      (refine wpAnyS_takeW (i := 1) (v := ?_) rfl (by kernel_rfl) (by kernel_rfl) (by kernel_rfl) (by kernel_rfl) (fun _ _ _ h => h) (Or.inl ⟨by rfl, ?_⟩) hHeld ?_; rotate_left 1; (focus (intro w' hSw; go_simp; (try with_reducible rfl))); (try simp only [Act.put, List.setIfInBounds_toArray, List.set_cons_zero, List.set_cons_succ]))
      (refine wpAnyS_takeL (i := 2) (v := ?_) rfl (by kernel_rfl) (by kernel_rfl) (by kernel_rfl) (by kernel_rfl) (by kernel_rfl) (by kernel_rfl) (fun _ _ _ h => h) (Or.inl ⟨by rfl, ?_⟩) hHeld ?_; rotate_left 1; (focus (intro w' hSw; (try dsimp only at hSw); go_simp; (try with_reducible rfl))); (try simp only [Act.put, List.setIfInBounds_toArray, List.set_cons_zero, List.set_cons_succ]))
      (refine wpAnyS_takeW (i := 3) (v := ?_) rfl (by kernel_rfl) (by kernel_rfl) (by kernel_rfl) (by kernel_rfl) (fun _ _ _ h => h) (Or.inl ⟨by rfl, ?_⟩) hHeld ?_; rotate_left 1; (focus (intro w' hSw; go_simp; (try with_reducible rfl))); (try simp only [Act.put, List.setIfInBounds_toArray, List.set_cons_zero, List.set_cons_succ]))
      (refine wpAnyS_takeW (i := 4) (v := ?_) rfl (by kernel_rfl) (by kernel_rfl) (by kernel_rfl) (by kernel_rfl) (fun _ _ _ h => h) (Or.inl ⟨by rfl, ?_⟩) hHeld ?_; rotate_left 1; (focus (intro w' hSw; go_simp; (try with_reducible rfl))); (try simp only [Act.put, List.setIfInBounds_toArray, List.set_cons_zero, List.set_cons_succ]))
      (refine wpAnyS_takeW (i := 5) (v := ?_) rfl (by kernel_rfl) (by kernel_rfl) (by kernel_rfl) (by kernel_rfl) (fun _ _ _ h => h) (Or.inl ⟨by rfl, ?_⟩) hHeld ?_; rotate_left 1; (focus (intro w' hSw; go_simp; (try with_reducible rfl))); (try simp only [Act.put, List.setIfInBounds_toArray, List.set_cons_zero, List.set_cons_succ]))
      refine wpAnyS_ready (rs := [6, 7]) (by kernel_rfl) (by simp) ?_
      refine AllS.consL rfl (fun K hK => ?_) (AllS.consL rfl (fun K hK => ?_) AllS.nil)
      · (go_simp; go_at_call 38; refine (HR.out _ HZ.out.drew.bare).mono ?_; rintro e w3 ⟨dv, iv, pv, rfl, hk3⟩; obtain ⟨da, dc, rfl, _⟩ := id hk3.sl0; obtain ⟨ia, ic, rfl, _⟩ := id hk3.sl1; obtain ⟨pa, pc, rfl, _⟩ := id hk3.sl2; have hs3 := HZ.out.drew.call hk3; go_wp2_with fail)
        (refine hK.out _ _ ?_ (fun hHeld => ?_); (focus ((try dsimp only); exact HW.out _ _ _ hs3)); clear hK K; (try simp only [Act.put, List.setIfInBounds_toArray, List.set_cons_zero, List.set_cons_succ]))
        (refine wpAnyS_ready (rs := [7]) (by kernel_rfl) (by simp) ?_; refine AllS.consL rfl (fun K hK => ?_) AllS.nil)
        go_simp
        have hs4 := hs3.madeAt ([.int .i64 (0), .slice none 0 0, .slice none 0 0, .string (str []), .slice none 0 0, .int .i64 (0), .int .i64 (0), .string (str [])]).toArray 26 8 1 w3.heap.size rfl (by simp [maxLen]) rfl
        (refine hK.out _ _ ?_ (fun hHeld => ?_); (focus ((try dsimp only); exact HW.out _ _ _ hs4)); clear hK K; (try simp only [Act.put, List.setIfInBounds_toArray, List.set_cons_zero, List.set_cons_succ]))
        (refine wpAnyS_seq (by rfl) (by kernel_rfl) ?_; simp only [List.drop_succ_cons, List.drop_zero])
        generalize w3.heap.size = gz at *
        go_wp2_with (first | ((with_reducible show wpList _ _ _ _ _ _); refine wpl_want rfl ?_) | (((with_reducible show wpList _ _ _ _ _ _); refine wpl_storeA rfl 26 _ _ rfl Try.aObj hs4 (0) rfl ([.int .i64 okind, .slice da odata.length dc, .slice ia oitems.length ic, .string otree, .slice pa oparents.length pc, .int .i64 ostamp, .int .i64 oauthor, .string omsg]) rfl (by rfl) (by simp) (by intro u hu; simp at hu; rcases hu with rfl | rfl | rfl | rfl | rfl | rfl | rfl | rfl <;> rfl) ?_; intro w5 hs5); replace hs5 := hs5.cast rfl (show _ = [.int .i64 okind, .slice da odata.length dc, .slice ia oitems.length ic, .string otree, .slice pa oparents.length pc, .int .i64 ostamp, .int .i64 oauthor, .string omsg] by simp)) | ((with_reducible show wpList _ _ _ _ _ _); refine wpl_loadA rfl 26 _ rfl Try.aObj (gz) (0) rfl ([.int .i64 okind, .slice da odata.length dc, .slice ia oitems.length ic, .string otree, .slice pa oparents.length pc, .int .i64 ostamp, .int .i64 oauthor, .string omsg]) rfl (fun i u h => by rw [Nat.zero_add]; exact hs5.rcell (List.mem_cons_self ..) h) ?_) | (go_at_call 10; refine (HEN.out _ _ _ _ _ hs5.tail).mono ?_; rintro e w6 ⟨xv, rfl, hk6⟩; obtain ⟨xa, xb, rfl, _⟩ := id hk6.sl0; have hs6 := hs5.call1 hk6) | (go_at_call 39; refine (bequal_any _ _ _ _ _ (hs6.sl0) (hs6.old HV.out)).mono ?_; rintro e w7 ⟨rfl, rfl⟩) | ((with_reducible show wpList _ _ _ _ _ _); refine wpl_storeA rfl 26 _ _ rfl Try.aObj (hs6.perm (R' := [_, _, _, _, _, _]) (List.perm_append_comm (l₁ := [_, _, _, _, _]) (l₂ := [_]))) (0) rfl ([.int .i64 (0), .slice none 0 0, .slice none 0 0, .string (str []), .slice none 0 0, .int .i64 (0), .int .i64 (0), .string (str [])]) rfl (by rfl) (by simp) (by intro u hu; simp at hu; rcases hu with rfl | rfl | rfl | rfl | rfl | rfl | rfl | rfl <;> rfl) ?_; intro w9 hs9))
        replace hs9 := hs9.cast rfl (show _ = [.int .i64 (0), .slice none 0 0, .slice none 0 0, .string (str []), .slice none 0 0, .int .i64 (0), .int .i64 (0), .string (str [])] by simp)
        have hcw : ∀ i u, ([.int .i64 (0), .slice none 0 0, .slice none 0 0, .string (str []), .slice none 0 0, .int .i64 (0), .int .i64 (0), .string (str [])])[i]? = some u → w9.cell? ⟨w.heap.size, i, none⟩ = some u := fun i u h => hs9.rcell (List.mem_cons_self ..) h
        refine bodyPost_ret (v := .tuple #[.agg ([.int .i64 (0), .slice none 0 0, .slice none 0 0, .string (str []), .slice none 0 0, .int .i64 (0), .int .i64 (0), .string (str [])]).toArray, .int .i64 4]) (results_cellA2 Try.results13 _ Try.aObj (g := w.heap.size) ([.int .i64 (0), .slice none 0 0, .slice none 0 0, .string (str []), .slice none 0 0, .int .i64 (0), .int .i64 (0), .string (str [])]) ?_ rfl hcw ?_) ?_ ⟨_, _, _, by rw [HF.out]; rfl, by rw [HF.out]; exact ((hs9.bare.addNil _ _).addNil _ _).addNil _ _⟩
        · first | (simp; done) | simp [Act.put]
        · first | (simp; done) | simp [Act.put]
        · first | (simp; done) | simp [Act.put]
      · go_simp
        have HZ2 := Mx.hid (HZ.out.madeAt ([.int .i64 (0), .slice none 0 0, .slice none 0 0, .string (str []), .slice none 0 0, .int .i64 (0), .int .i64 (0), .string (str [])]).toArray 26 8 1 (w.heap.size + 1) rfl (by simp [maxLen]) (by rw [heap_size_alloc])).drew
        (refine hK.out _ _ ?_ (fun hHeld => ?_); (focus ((try dsimp only); exact HW.out _ _ _ HZ2.out)); clear hK K; (try simp only [Act.put, List.setIfInBounds_toArray, List.set_cons_zero, List.set_cons_succ]))
        (refine wpAnyS_ready (rs := [6]) (by kernel_rfl) (by simp) ?_; refine AllS.consL rfl (fun K hK => ?_) AllS.nil)
        (go_simp; go_at_call 38; refine (HR.out _ HZ2.out.bare).mono ?_; rintro e w3 ⟨dv, iv, pv, rfl, hk3⟩; obtain ⟨da, dc, rfl, _⟩ := id hk3.sl0; obtain ⟨ia, ic, rfl, _⟩ := id hk3.sl1; obtain ⟨pa, pc, rfl, _⟩ := id hk3.sl2; have hs3 := HZ2.out.call hk3; go_wp2_with fail)
        replace hs3 := hs3.perm (perm_zr _ _ _ _ _)
        have hs4 := hs3
        (refine hK.out _ _ ?_ (fun hHeld => ?_); (focus ((try dsimp only); exact HW.out _ _ _ hs3)); clear hK K; (try simp only [Act.put, List.setIfInBounds_toArray, List.set_cons_zero, List.set_cons_succ]))
        (refine wpAnyS_seq (by rfl) (by kernel_rfl) ?_; simp only [List.drop_succ_cons, List.drop_zero])
        clear hs3
        generalize w.heap.size + 1 = gz at hs4 ⊢
        go_wp2_with (first | ((with_reducible show wpList _ _ _ _ _ _); refine wpl_want rfl ?_) | (((with_reducible show wpList _ _ _ _ _ _); refine wpl_storeA rfl 26 _ _ rfl Try.aObj hs4 (0) rfl ([.int .i64 okind, .slice da odata.length dc, .slice ia oitems.length ic, .string otree, .slice pa oparents.length pc, .int .i64 ostamp, .int .i64 oauthor, .string omsg]) rfl (by rfl) (by simp) (by intro u hu; simp at hu; rcases hu with rfl | rfl | rfl | rfl | rfl | rfl | rfl | rfl <;> rfl) ?_; intro w5 hs5); replace hs5 := hs5.cast rfl (show _ = [.int .i64 okind, .slice da odata.length dc, .slice ia oitems.length ic, .string otree, .slice pa oparents.length pc, .int .i64 ostamp, .int .i64 oauthor, .string omsg] by simp)) | ((with_reducible show wpList _ _ _ _ _ _); refine wpl_loadA rfl 26 _ rfl Try.aObj (gz) (0) rfl ([.int .i64 okind, .slice da odata.length dc, .slice ia oitems.length ic, .string otree, .slice pa oparents.length pc, .int .i64 ostamp, .int .i64 oauthor, .string omsg]) rfl (fun i u h => by rw [Nat.zero_add]; exact hs5.rcell (List.mem_cons_self ..) h) ?_) | (go_at_call 10; refine (HEN.out _ _ _ _ _ hs5.tail).mono ?_; rintro e w6 ⟨xv, rfl, hk6⟩; obtain ⟨xa, xb, rfl, _⟩ := id hk6.sl0; have hs6 := hs5.call1 hk6) | (go_at_call 39; refine (bequal_any _ _ _ _ _ (hs6.sl0) (hs6.old HV.out)).mono ?_; rintro e w7 ⟨rfl, rfl⟩) | ((with_reducible show wpList _ _ _ _ _ _); refine wpl_storeA rfl 26 _ _ rfl Try.aObj (hs6.perm (R' := [_, _, _, _, _, _]) (List.perm_append_comm (l₁ := [_, _, _, _, _]) (l₂ := [_]))) (0) rfl ([.int .i64 (0), .slice none 0 0, .slice none 0 0, .string (str []), .slice none 0 0, .int .i64 (0), .int .i64 (0), .string (str [])]) rfl (by rfl) (by simp) (by intro u hu; simp at hu; rcases hu with rfl | rfl | rfl | rfl | rfl | rfl | rfl | rfl <;> rfl) ?_; intro w9 hs9))
        replace hs9 := hs9.cast rfl (show _ = [.int .i64 (0), .slice none 0 0, .slice none 0 0, .string (str []), .slice none 0 0, .int .i64 (0), .int .i64 (0), .string (str [])] by simp)
        have hcw : ∀ i u, ([.int .i64 (0), .slice none 0 0, .slice none 0 0, .string (str []), .slice none 0 0, .int .i64 (0), .int .i64 (0), .string (str [])])[i]? = some u → w9.cell? ⟨w.heap.size, i, none⟩ = some u := fun i u h => hs9.rcell (List.mem_cons_self ..) h
        refine bodyPost_ret (v := .tuple #[.agg ([.int .i64 (0), .slice none 0 0, .slice none 0 0, .string (str []), .slice none 0 0, .int .i64 (0), .int .i64 (0), .string (str [])]).toArray, .int .i64 4]) (results_cellA2 Try.results13 _ Try.aObj (g := w.heap.size) ([.int .i64 (0), .slice none 0 0, .slice none 0 0, .string (str []), .slice none 0 0, .int .i64 (0), .int .i64 (0), .string (str [])]) ?_ rfl hcw ?_) ?_ ⟨_, _, _, by rw [HF.out]; rfl, by rw [HF.out]; exact ((hs9.bare.addNil _ _).addNil _ _).addNil _ _⟩
        · first | (simp; done) | simp [Act.put]
        · first | (simp; done) | simp [Act.put]
        · first | (simp; done) | simp [Act.put]
end Go.Proofs.Ytlfdnlomlbbicaa

namespace Go.Proofs.Ytlfdnlomlbbicaa
open Go.RowKit Go.Mx

theorem decode_any (v : Value) (l : List UInt8) (w : World) (hv : Sl w 1 v l.length (bs l)) (hl : l.length ≤ 1000000000) :
    Calls Try.prog 13 #[v] w (DecPost w l) := by
  match l, hv, hl with
  | [], hv, _ => exact decode_nil v w hv
  | k :: r, hv, hl => exact decode_cons v k r w hv hl

theorem sEq_any (v v' : Value) (l l' : List ByteArray) (w : World) (hv : Sl w 1 v l.length (ss l)) (hv' : Sl w 1 v' l'.length (ss l')) :
    Calls Try.prog 54 #[v, v'] w fun e w' => e = .returned (.bool (decide (l = l'))) ∧ St w w' [] [] := by
  obtain ⟨ao, cap, blk, off, rfl, h1, h2, _, hc⟩ := hv.txt
  obtain ⟨ao', cap', blk', off', rfl, h1', h2', _, hc'⟩ := hv'.txt
  clear hv hv'
  have HC := hid hc
  have HC' := hid hc'
  clear hc hc'
  by_cases he : l.length = l'.length
  · have hb : ((l.length : Int) != (l'.length : Int)) = false := by simp [he]
    have He := hid he
    clear he
    go_enter Try.func54, Try.ntmps54
    go_wp2_with fail
    go_loopw [13] (fun x wr => ∃ i : Nat, i ≤ l.length ∧ x = .int .i64 i ∧ Hid (l.take i = l'.take i) ∧ St w wr [] []) (fun x _ => l.length - (intOf x).toNat)
    case atStart => exact ⟨0, by omega, rfl, by simp [Hid], St.refl w⟩
    case round =>
      obtain ⟨i, hi, rfl, Ht, hs⟩ := hrel
      by_cases hlt : i < l.length
      · have hlt' : i < l'.length := by have := He.out; omega
        obtain ⟨rfl, c1⟩ := HC.out i hlt
        obtain ⟨rfl, c2⟩ := HC'.out i hlt'
        have c1 := hs.keep c1
        have c2 := hs.keep c2
        have hii : (i : Int) < (l.length : Int) := by omega
        have hii' : (i : Int) < (l'.length : Int) := by omega
        by_cases hx : l[i] = l'[i]
        · have hb := tx_beq hx
          have Hx := hid hx
          clear hx
          go_wp2_with fail
          go_quiet (fail)
          go_wp2_with fail
          go_roundw
          case rel => exact ⟨i + 1, by omega, by go_num, by rw [List.take_succ_eq_append_getElem hlt, List.take_succ_eq_append_getElem hlt', Ht.out, Hx.out]; rfl, hs.drewN _⟩
          case measure => simp [intOf]; omega
        · have hb := tx_bne hx
          have Hx := hid hx
          clear hx
          go_wp2_with fail
          go_quiet (fail)
          go_wp2_with fail
          go_ret
          have hne : l ≠ l' := by intro h; subst h; exact Hx.out rfl
          exact ⟨by rw [decide_eq_false hne]; rfl, hs.drewN _⟩
      · go_wp2_with fail
        go_ret
        have heq : l = l' := by have h1 := Ht.out; rw [List.take_of_length_le (by omega), List.take_of_length_le (by have := He.out; omega)] at h1; exact h1
        exact ⟨by rw [decide_eq_true heq]; rfl, hs⟩
  · have hb : ((l.length : Int) != (l'.length : Int)) = true := by simp; omega
    have hne : l ≠ l' := by rintro rfl; exact he rfl
    have He := hid he
    have Hne := hid hne
    clear he hne
    go_enter Try.func54, Try.ntmps54
    go_wp2_with fail
    go_ret
    exact ⟨by rw [decide_eq_false Hne.out]; rfl, St.refl w⟩

theorem itm_cells {w : World} {v : Value} {l : List Itm} (hv : Sl w 3 v l.length (itms l)) : ∃ ao cap blk off, v = .slice ao l.length cap ∧ l.length ≤ cap ∧ cap ≤ 9223372036854775807 ∧ ∀ (i : Nat) (hi : i < l.length), ao = some ⟨blk, off, none⟩ ∧ w.cell? ⟨blk, off + i * 3, none⟩ = some (.int .i64 l[i].1) ∧ w.cell? ⟨blk, off + i * 3 + 1, none⟩ = some (.string l[i].2.1) ∧ w.cell? ⟨blk, off + i * 3 + 2, none⟩ = some (.string l[i].2.2) := by
  obtain ⟨ao, cap, blk, off, rfl, hc1, hc2, _, hcell⟩ := hv.anyC
  refine ⟨ao, cap, blk, off, rfl, hc1, hc2, fun i hi => ?_⟩
  have g0 := hcell (i * 3 + 0) _ ((flat_get (k := 3) (fun _ => rfl) l (by omega) hi).trans (show (itmRow l[i])[0]? = some (.int .i64 l[i].1) from rfl))
  have g1 := hcell (i * 3 + 1) _ ((flat_get (k := 3) (fun _ => rfl) l (by omega) hi).trans (show (itmRow l[i])[1]? = some (.string l[i].2.1) from rfl))
  have g2 := hcell (i * 3 + 2) _ ((flat_get (k := 3) (fun _ => rfl) l (by omega) hi).trans (show (itmRow l[i])[2]? = some (.string l[i].2.2) from rfl))
  exact ⟨g0.1, g0.2, g1.2, g2.2⟩

theorem iEq_any (v v' : Value) (l l' : List Itm) (w : World) (hv : Sl w 3 v l.length (itms l)) (hv' : Sl w 3 v' l'.length (itms l')) :
    Calls Try.prog 53 #[v, v'] w fun e w' => e = .returned (.bool (decide (l = l'))) ∧ St w w' [] [] := by
  obtain ⟨ao, cap, blk, off, rfl, h1, h2, hc⟩ := itm_cells hv
  obtain ⟨ao', cap', blk', off', rfl, h1', h2', hc'⟩ := itm_cells hv'
  clear hv hv'
  have HC := hid hc
  have HC' := hid hc'
  clear hc hc'
  by_cases he : l.length = l'.length
  · have hb : ((l.length : Int) != (l'.length : Int)) = false := by simp [he]
    have He := hid he
    clear he
    go_enter Try.func53, Try.ntmps53
    go_wp2_with fail
    go_loopw [13] (fun x wr => ∃ i : Nat, i ≤ l.length ∧ x = .int .i64 i ∧ Hid (l.take i = l'.take i) ∧ St w wr [] []) (fun x _ => l.length - (intOf x).toNat)
    case atStart => exact ⟨0, by omega, rfl, by simp [Hid], St.refl w⟩
    case round =>
      obtain ⟨i, hi, rfl, Ht, hs⟩ := hrel
      by_cases hlt : i < l.length
      · have hlt' : i < l'.length := by have := He.out; omega
        obtain ⟨rfl, c0, c1, c2⟩ := HC.out i hlt
        obtain ⟨rfl, d0, d1, d2⟩ := HC'.out i hlt'
        have c0 := hs.keep c0
        have c1 := hs.keep c1
        have c2 := hs.keep c2
        have d0 := hs.keep d0
        have d1 := hs.keep d1
        have d2 := hs.keep d2
        have hii : (i : Int) < (l.length : Int) := by omega
        have hii' : (i : Int) < (l'.length : Int) := by omega
        have HT := Mx.hid (fun (hx : l[i] = l'[i]) => (show l.take (i + 1) = l'.take (i + 1) by rw [List.take_succ_eq_append_getElem hlt, List.take_succ_eq_append_getElem hlt', Ht.out, hx]))
        have HN := Mx.hid (fun (hx : ¬ l[i] = l'[i]) => (show l ≠ l' by intro h; subst h; exact hx rfl))
        generalize l[i] = y at *
        generalize l'[i] = y' at *
        obtain ⟨m, nme, hsh⟩ := y
        obtain ⟨m', nme', hsh'⟩ := y'
        simp only [Prod.mk.injEq] at *
        by_cases hx : m = m' ∧ nme = nme' ∧ hsh = hsh'
        · obtain ⟨rfl, rfl, rfl⟩ := hx
          go_wp2_with fail
          go_quiet (fail)
          go_wp2_with fail
          go_roundw
          case rel => exact ⟨i + 1, by omega, by go_num, HT.out (by simp), hs.drewN _⟩
          case measure => simp [intOf]; omega
        · have HX := Mx.hid (HN.out hx)
          have hc : ¬ m = m' ∨ (m = m' ∧ ¬ nme.toList = nme'.toList) ∨ (m = m' ∧ nme = nme' ∧ ¬ hsh.toList = hsh'.toList) := by
            by_cases g1 : m = m'
            · by_cases g2 : nme = nme'
              · exact .inr (.inr ⟨g1, g2, fun h => hx ⟨g1, g2, toL_inj h⟩⟩)
              · exact .inr (.inl ⟨g1, fun h => g2 (toL_inj h)⟩)
            · exact .inl g1
          clear hx HN HT
          rcases hc with g1 | ⟨rfl, g2⟩ | ⟨rfl, rfl, g3⟩
          · go_wp2_with fail
            go_quiet (fail)
            go_wp2_with fail
            go_ret
            exact ⟨by rw [decide_eq_false HX.out]; rfl, hs.drewN _⟩
          · go_wp2_with fail
            go_quiet (fail)
            go_wp2_with fail
            go_ret
            exact ⟨by rw [decide_eq_false HX.out]; rfl, hs.drewN _⟩
          · go_wp2_with fail
            go_quiet (fail)
            go_wp2_with fail
            go_ret
            exact ⟨by rw [decide_eq_false HX.out]; rfl, hs.drewN _⟩
      · go_wp2_with fail
        go_ret
        have heq : l = l' := by have h1 := Ht.out; rw [List.take_of_length_le (by omega), List.take_of_length_le (by have := He.out; omega)] at h1; exact h1
        exact ⟨by rw [decide_eq_true heq]; rfl, hs⟩
  · have hb : ((l.length : Int) != (l'.length : Int)) = true := by simp; omega
    have hne : l ≠ l' := by rintro rfl; exact he rfl
    have He := hid he
    have Hne := hid hne
    clear he hne
    go_enter Try.func53, Try.ntmps53
    go_wp2_with fail
    go_ret
    exact ⟨by rw [decide_eq_false Hne.out]; rfl, St.refl w⟩
end Go.Proofs.Ytlfdnlomlbbicaa

/- The walk of obj.Encode: commits; Encode whole. -/
import Derived.Test.YtlfdnlomlbbicaaGreatDoorJ16ObjE
namespace Go.Proofs.YtlfdnlomlbbicaaGreatDoor
open Go.RowKit Go.Mx

set_option maxRecDepth 100000 in
set_option maxHeartbeats 4000000 in
theorem enc_commit (dv iv pv : Value) (o : Ob) (w : World) (h : OB w dv iv pv o) (hz : OZ o) (hm : mayB o = true) (hk : o.kind = 3) :
    Calls Tryz.prog 53 #[OV dv iv pv o] w fun e w' => ∃ v, e = .returned (.tuple #[v, .int .i64 0]) ∧ St w w' [(⟨v, 5, 1, (encL o).length, bs (encL o)⟩ : Row)] [] := by
  have HMY := Mx.hid (fun wx (hs : St w wx [] []) => may_any dv iv pv o wx (OB.old hs h) hz)
  have hm2 := hm
  unfold mayB at hm2
  rw [if_neg (by omega), if_neg (by omega), if_pos hk] at hm2
  simp only [Bool.and_eq_true, decide_eq_true_eq, parentsB, msgB] at hm2
  obtain ⟨⟨⟨⟨⟨⟨u1, u2⟩, ht⟩, ⟨hp, u3⟩, hpl⟩, hs1, hs2⟩, ha1, ha2⟩, u4, hml⟩ := hm2
  clear u1 u2 u3 u4
  rw [hm] at HMY
  have HP := Mx.hid (fun (i : Nat) (hi : i < o.parents.length) => List.all_eq_true.1 hp _ (List.getElem_mem hi))
  have HPZ := Mx.hid (fun (i : Nat) (hi : i < o.parents.length) => hz.ps o.parents[i] (List.getElem_mem hi))
  have HE := Mx.hid (show encL o = 3 :: (rawL o.tree ++ (UInt8.ofNat o.parents.length :: o.parents.flatMap rawL) ++ putL o.stamp.toNat ++ putL o.author.toNat ++ putL o.msg.size ++ bL o.msg) by unfold encL; rw [if_neg (by omega), if_neg (by omega)])
  have Ht := Mx.hid ht
  have H32 := Mx.hid (raw_len ht)
  have z1 := hz.tr
  obtain ⟨d1, d2, rfl, g1, g2, _⟩ := h.d
  obtain ⟨i1, i2, rfl, g3, g4, _⟩ := h.i
  obtain ⟨p1, p2, blk, off, hpv, g5, g6, _, hcell⟩ := h.p.txt
  have HC := Mx.hid hcell
  clear h hz hm hcell hp ht
  obtain ⟨kind, data, items, tree, parents, stamp, author, msg⟩ := o
  subst hpv
  simp only [OV] at *
  subst hk
  obtain ⟨st, rfl⟩ := Int.eq_ofNat_of_zero_le hs1
  obtain ⟨au, rfl⟩ := Int.eq_ofNat_of_zero_le ha1
  have h9a := putL_9 (show st ≤ 72057594037927936 by omega)
  have h9b := putL_9 (show au ≤ 72057594037927936 by omega)
  have h9c := putL_9 (show msg.size ≤ 72057594037927936 by omega)
  have Hm1 := Mx.hid (show [Value.int .u8 (IntKind.u8.wrap (parents.length : Int))] = bs [UInt8.ofNat parents.length] by
    rw [IntWalk.u8_in _ (by omega)]
    show _ = [Value.int .u8 _]
    rw [UInt8.toNat_ofNat']; congr 2; omega)
  clear hs1 ha1
  have HN := Mx.hid (show parents.length ≤ 2 ∧ msg.size ≤ 200 ∧ st ≤ 1099511627776 ∧ au ≤ 255 ∧ (putL st).length ≤ 9 ∧ (putL au).length ≤ 9 ∧ (putL msg.size).length ≤ 9 from ⟨hpl, hml, by omega, by omega, h9a, h9b, h9c⟩)
  clear hpl hml hs2 ha2 h9a h9b h9c
  go_enter Tryz.func53, Tryz.ntmps53
  go_wp2_with (first | (((with_reducible show wpList _ _ _ _ _ _); refine wpl_box rfl 72 _ rfl (St.refl w) ([.int .i64 3, .slice d1 data.length d2, .slice i1 items.length i2, .string tree, .slice p1 parents.length p2, .int .i64 (st : Int), .int .i64 (au : Int), .string msg]) (by rfl) ?_; intro gx wx hsx); (have x0 := hsx.cell (j := 0) rfl; have x1 := hsx.cell (j := 1) rfl; have x2 := hsx.cell (j := 2) rfl; have x3 := hsx.cell (j := 3) rfl; have x4 := hsx.cell (j := 4) rfl; have x5 := hsx.cell (j := 5) rfl; have x6 := hsx.cell (j := 6) rfl; have x7 := hsx.cell (j := 7) rfl)) | ((with_reducible show wpList _ _ _ _ _ _); refine wpl_loadA rfl 72 _ rfl Tryz.aObj (gx) (0) rfl ([.int .i64 3, .slice d1 data.length d2, .slice i1 items.length i2, .string tree, .slice p1 parents.length p2, .int .i64 (st : Int), .int .i64 (au : Int), .string msg]) rfl (fun i u h => by rw [Nat.zero_add]; exact hsx.rcell (List.mem_cons_self ..) h) ?_) | (go_at_call 76; refine (HMY.out _ hsx.bare).mono ?_; rintro e w2 ⟨rfl, hk⟩; replace hsx := hsx.call0 hk; (have x0 := hsx.cell (j := 0) rfl; have x1 := hsx.cell (j := 1) rfl; have x2 := hsx.cell (j := 2) rfl; have x3 := hsx.cell (j := 3) rfl; have x4 := hsx.cell (j := 4) rfl; have x5 := hsx.cell (j := 5) rfl; have x6 := hsx.cell (j := 6) rfl; have x7 := hsx.cell (j := 7) rfl)) | (((with_reducible show wpList _ _ _ _ _ _); refine wpl_lit1 rfl 25 _ rfl Tryz.elU8 hsx (.int .u8 3) (by rfl) (by rfl) ?_; intro gl w3 hs3); have x0 := hs3.rcell (j := 0) (List.mem_cons_of_mem _ (List.mem_cons_self ..)) rfl; have x1 := hs3.rcell (j := 1) (List.mem_cons_of_mem _ (List.mem_cons_self ..)) rfl; have x2 := hs3.rcell (j := 2) (List.mem_cons_of_mem _ (List.mem_cons_self ..)) rfl; have x3 := hs3.rcell (j := 3) (List.mem_cons_of_mem _ (List.mem_cons_self ..)) rfl; have x4 := hs3.rcell (j := 4) (List.mem_cons_of_mem _ (List.mem_cons_self ..)) rfl; have x5 := hs3.rcell (j := 5) (List.mem_cons_of_mem _ (List.mem_cons_self ..)) rfl; have x6 := hs3.rcell (j := 6) (List.mem_cons_of_mem _ (List.mem_cons_self ..)) rfl; have x7 := hs3.rcell (j := 7) (List.mem_cons_of_mem _ (List.mem_cons_self ..)) rfl))
  have h32 := H32.out
  have hs3' : St w w3 ((⟨.slice (some ⟨gl, 0, none⟩) 1 1, 5, 1, ([3]).length, bs ([3])⟩ : Row) :: (⟨.slice (some ⟨gx, 0, none⟩) 1 1, 72, 8, 1, [.int .i64 3, .slice d1 data.length d2, .slice i1 items.length i2, .string tree, .slice p1 parents.length p2, .int .i64 (st : Int), .int .i64 (au : Int), .string msg]⟩ : Row) :: []) [] := hs3
  have HH1 := Mx.hid (hash_go _ [3] tree hs3'.drew z1 Ht.out (by simp))
  have HH2 := Mx.hid (hash_go _ [3] tree (hs3'.bq (.int .u8 (IntKind.u8.wrap (parents.length : Int))) 5).drew z1 Ht.out (by simp))
  go_region_held3 (fun W => W.cell? ⟨gx, 3, none⟩ = some (.string tree) ∧ W.cell? ⟨gx, 4, none⟩ = some (.slice p1 parents.length p2)) (first | exact ⟨hs5.rcell (j := 3) (List.mem_cons_of_mem _ (List.mem_cons_self ..)) rfl, hs5.rcell (j := 4) (List.mem_cons_of_mem _ (List.mem_cons_self ..)) rfl⟩ | exact ⟨hs4.rcell (j := 3) (List.mem_cons_of_mem _ (List.mem_cons_self ..)) rfl, hs4.rcell (j := 4) (List.mem_cons_of_mem _ (List.mem_cons_self ..)) rfl⟩ | exact ⟨hq3.rcell (j := 3) (List.mem_cons_of_mem _ (List.mem_cons_self ..)) rfl, hq3.rcell (j := 4) (List.mem_cons_of_mem _ (List.mem_cons_self ..)) rfl⟩ | go_keep) (first
    | (go_at_call 78; (with_reducible show Calls _ _ _ (World.drew (World.alloc _ _)) _); refine HH2.out.mono ?_; rintro e w4 ⟨v4, rfl, hs4⟩)
    | (go_at_call 78; refine HH1.out.mono ?_; rintro e w4 ⟨v4, rfl, hs4⟩)
    | (refine step_app rfl _ _ 25 rfl Tryz.elU8 (by exact hs4.alloc _) rfl (by exact Sl.one _ _ _) (by intro u hu; simp at hu; subst hu; rfl) (by simp; omega) ?_; intro v5 w5 hs5 _)
    | (refine step_app rfl _ _ 25 rfl Tryz.elU8 (by exact hs4) rfl (by exact hs4.q0) (by intro u hu; simp at hu; subst hu; rfl) (by simp; omega) ?_; intro v5 w5 hs5 _))
  all_goals
    have hs6 : St w w5 ((⟨v5, 5, 1, ([3] ++ rawL tree ++ [UInt8.ofNat parents.length]).length, bs ([3] ++ rawL tree ++ [UInt8.ofNat parents.length])⟩ : Row) :: (⟨.slice (some ⟨gx, 0, none⟩) 1 1, 72, 8, 1, [.int .i64 3, .slice d1 data.length d2, .slice i1 items.length i2, .string tree, .slice p1 parents.length p2, .int .i64 (st : Int), .int .i64 (au : Int), .string msg]⟩ : Row) :: []) [] := hs5.noQ.cast (by simp) (by rw [Hm1.out]; simp [bs])
    have x4 := hs6.rcell (j := 4) (List.mem_cons_of_mem _ (List.mem_cons_self ..)) rfl
    clear hs5 hs4 hs3 hs3' HH1 HH2 hsx
    go_wp2_with fail
    go_loopw [4, 70] (fun x y wr => ∃ (i : Nat) (acc : List UInt8), i ≤ parents.length ∧ y = .int .i64 i ∧ acc.length = 34 + 32 * i ∧ Hid (acc = 3 :: (rawL tree ++ (UInt8.ofNat parents.length :: (parents.take i).flatMap rawL))) ∧ St w wr [(⟨x, 5, 1, (acc).length, bs (acc)⟩ : Row), (⟨.slice (some ⟨gx, 0, none⟩) 1 1, 72, 8, 1, [.int .i64 3, .slice d1 data.length d2, .slice i1 items.length i2, .string tree, .slice p1 parents.length p2, .int .i64 (st : Int), .int .i64 (au : Int), .string msg]⟩ : Row)] []) (fun _ y _ => parents.length - (intOf y).toNat)
    case atStart => exact ⟨0, [3] ++ rawL tree ++ [UInt8.ofNat parents.length], by omega, rfl, by simp; omega, by simp [Hid], hs6⟩
    case round =>
      obtain ⟨i, acc, hi, rfl, hac, He, hs⟩ := hrel
      obtain ⟨n1, n2, n3, n4, h9a, h9b, h9c⟩ := HN.out
      by_cases hlt : i < parents.length
      · obtain ⟨rfl, c0⟩ := HC.out i hlt
        have c0 := hs.keep c0
        have hpz := HPZ.out i hlt
        have HT := Mx.hid (show (parents.take (i + 1)).flatMap rawL = (parents.take i).flatMap rawL ++ rawL parents[i] by rw [List.take_succ_eq_append_getElem hlt, List.flatMap_append]; simp)
        have H3 := Mx.hid (raw_len (HP.out i hlt))
        have hal : acc.length ≤ 1000 := by omega
        have HH3 := Mx.hid (fun (wx : World) (v : Value) (R : List Row) (hx : St w wx ((⟨v, 5, 1, (acc).length, bs (acc)⟩ : Row) :: R) []) => hash_go v acc parents[i] hx hpz (HP.out i hlt) (by omega))
        have Hac := Mx.hid hac
        clear hac n1 n2 n3 n4 h9a h9b h9c
        generalize parents[i] = s at *
        go_wp2_with (go_at_call 78; refine (HH3.out _ _ _ hs).mono ?_; rintro e w4 ⟨v4, rfl, hs4⟩)
        go_roundw
        case rel => exact ⟨i + 1, acc ++ rawL s, by omega, by go_num, by have := H3.out; have := Hac.out; simp; omega, by rw [HT.out, He.out]; simp [Hid], hs4⟩
        case measure => simp [intOf]; omega
      · have hF : encL ⟨3, data, items, tree, parents, (st : Int), (au : Int), msg⟩ = acc ++ putL st ++ putL au ++ putL msg.size ++ bL msg := by
          have h2 := He.out
          rw [List.take_of_length_le (by omega)] at h2
          rw [HE.out, h2]
          simp
        have HF := Mx.hid hF
        have hal : acc.length ≤ 1000 := by omega
        have ha1 : (acc ++ putL st).length ≤ 2000 := by simp; omega
        have ha2 : (acc ++ putL st ++ putL au).length ≤ 3000 := by simp; omega
        have ha3 : (acc ++ putL st ++ putL au ++ putL msg.size).length ≤ 4000 := by simp; omega
        have HX1 := Mx.hid (fun (wx : World) v (hx : St w wx [(⟨v, 5, 1, (acc).length, bs (acc)⟩ : Row), (⟨.slice (some ⟨gx, 0, none⟩) 1 1, 72, 8, 1, [.int .i64 3, .slice d1 data.length d2, .slice i1 items.length i2, .string tree, .slice p1 parents.length p2, .int .i64 (st : Int), .int .i64 (au : Int), .string msg]⟩ : Row)] []) => number_go v acc st hx (by omega) (by omega))
        have HX2 := Mx.hid (fun (wx : World) v (hx : St w wx [(⟨v, 5, 1, (acc ++ putL st).length, bs (acc ++ putL st)⟩ : Row), (⟨.slice (some ⟨gx, 0, none⟩) 1 1, 72, 8, 1, [.int .i64 3, .slice d1 data.length d2, .slice i1 items.length i2, .string tree, .slice p1 parents.length p2, .int .i64 (st : Int), .int .i64 (au : Int), .string msg]⟩ : Row)] []) => number_go v (acc ++ putL st) au hx (by omega) (by omega))
        have HX3 := Mx.hid (fun (wx : World) v (hx : St w wx [(⟨v, 5, 1, (acc ++ putL st ++ putL au).length, bs (acc ++ putL st ++ putL au)⟩ : Row), (⟨.slice (some ⟨gx, 0, none⟩) 1 1, 72, 8, 1, [.int .i64 3, .slice d1 data.length d2, .slice i1 items.length i2, .string tree, .slice p1 parents.length p2, .int .i64 (st : Int), .int .i64 (au : Int), .string msg]⟩ : Row)] []) => number_go v (acc ++ putL st ++ putL au) msg.size hx (by omega) (by omega))
        generalize acc ++ putL st ++ putL au ++ putL msg.size = A3 at *
        generalize acc ++ putL st ++ putL au = A2 at *
        generalize acc ++ putL st = A1 at *
        clear hac hF h9a h9b h9c n1 n3 n4
        go_wp2_with fail
        go_region_held3 (fun W => W.cell? ⟨gx, 5, none⟩ = some (.int .i64 (st : Int)) ∧ W.cell? ⟨gx, 6, none⟩ = some (.int .i64 (au : Int)) ∧ W.cell? ⟨gx, 7, none⟩ = some (.string msg)) (first | exact ⟨hs13.rcell (j := 5) (List.mem_cons_of_mem _ (List.mem_cons_self ..)) rfl, hs13.rcell (j := 6) (List.mem_cons_of_mem _ (List.mem_cons_self ..)) rfl, hs13.rcell (j := 7) (List.mem_cons_of_mem _ (List.mem_cons_self ..)) rfl⟩ | exact ⟨hs12.rcell (j := 5) (List.mem_cons_of_mem _ (List.mem_cons_self ..)) rfl, hs12.rcell (j := 6) (List.mem_cons_of_mem _ (List.mem_cons_self ..)) rfl, hs12.rcell (j := 7) (List.mem_cons_of_mem _ (List.mem_cons_self ..)) rfl⟩ | exact ⟨hs11.rcell (j := 5) (List.mem_cons_of_mem _ (List.mem_cons_self ..)) rfl, hs11.rcell (j := 6) (List.mem_cons_of_mem _ (List.mem_cons_self ..)) rfl, hs11.rcell (j := 7) (List.mem_cons_of_mem _ (List.mem_cons_self ..)) rfl⟩ | exact ⟨hs.rcell (j := 5) (List.mem_cons_of_mem _ (List.mem_cons_self ..)) rfl, hs.rcell (j := 6) (List.mem_cons_of_mem _ (List.mem_cons_self ..)) rfl, hs.rcell (j := 7) (List.mem_cons_of_mem _ (List.mem_cons_self ..)) rfl⟩ | go_keep) (first
          | (go_at_call 77; refine (HX3.out _ _ hs12).mono ?_; rintro e w13 ⟨v13, rfl, hs13⟩)
          | (go_at_call 77; refine (HX2.out _ _ hs11).mono ?_; rintro e w12 ⟨v12, rfl, hs12⟩)
          | (go_at_call 77; refine (HX1.out _ _ hs.drew).mono ?_; rintro e w11 ⟨v11, rfl, hs11⟩))
        have x7 := hs13.rcell (j := 7) (List.mem_cons_of_mem _ (List.mem_cons_self ..)) rfl
        go_wp2_with (at_builtin; refine wpl_app_str rfl _ _ 25 9 rfl Tryz.elU8 Tryz.underlying9 hs13 rfl rfl (by omega) ?_; intro v14 w14 hs14 _)
        go_ret2
        exact ⟨_, rfl, by rw [HF.out]; exact hs14.head.cast (by simp [bL]) (by rw [bs_app]; rfl)⟩

theorem may_kind {o : Ob} (h : mayB o = true) : o.kind = 1 ∨ o.kind = 2 ∨ o.kind = 3 := by
  unfold mayB at h
  by_cases h1 : o.kind = 1
  · exact .inl h1
  · by_cases h2 : o.kind = 2
    · exact .inr (.inl h2)
    · by_cases h3 : o.kind = 3
      · exact .inr (.inr h3)
      · rw [if_neg h1, if_neg h2, if_neg h3] at h; cases h

theorem encode_any (dv iv pv : Value) (o : Ob) (w : World) (h : OB w dv iv pv o) (hz : OZ o) :
    Calls Tryz.prog 53 #[OV dv iv pv o] w (EncPost w o) := by
  unfold EncPost
  cases hm : mayB o with
  | false => exact enc_bad dv iv pv o w h hz hm
  | true =>
    rcases may_kind hm with hk | hk | hk
    · exact enc_blob dv iv pv o w h hz hm hk
    · exact enc_tree dv iv pv o w h hz hm hk
    · exact enc_commit dv iv pv o w h hz hm hk
end Go.Proofs.YtlfdnlomlbbicaaGreatDoor

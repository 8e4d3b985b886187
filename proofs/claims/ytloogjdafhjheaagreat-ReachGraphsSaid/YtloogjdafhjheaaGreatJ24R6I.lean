/- The walk of the document's Encode: commits; Encode whole. What a decoding may be. The document's reading of objects: the plain mathematics (no program in sight). -/
import Derived.Test.YtloogjdafhjheaaGreatJ23R6E
import Derived.Test.YtloogjdafhjheaaGreatJ11ObjI
import Derived.Test.YtloogjdafhjheaaGreatJ6WireP
namespace Go.Proofs.YtloogjdafhjheaaGreat
open Go.RowKit Go.Mx

set_option maxRecDepth 100000 in
set_option maxHeartbeats 4000000 in
theorem renc_commit (dv iv pv : Value) (o : Ob) (w : World) (h : OB w dv iv pv o) (hz : OZ o) (hdl : o.data.length ≤ 1000000000000) (hil : o.items.length ≤ 1000000000000) (hm : mayB o = true) (hk : o.kind = 3) :
    Calls Tryz.prog 54 #[OV dv iv pv o] w fun e w' => ∃ v, e = .returned (.tuple #[v, .int .i64 0]) ∧ St w w' [(⟨v, 5, 1, (encL o).length, bs (encL o)⟩ : Row)] [] := by
  have HMY := Mx.hid (fun wx (hs : St w wx [] []) => rmay_any dv iv pv o wx (OB.old hs h) hz hdl hil)
  have hm2 := hm
  unfold mayB at hm2
  rw [if_neg (by omega), if_neg (by omega), if_pos hk] at hm2
  simp only [Bool.and_eq_true, decide_eq_true_eq, parentsB, msgB] at hm2
  obtain ⟨⟨⟨⟨⟨⟨u1, u2⟩, ht⟩, ⟨hp, u3⟩, hpl⟩, hs1, hs2⟩, ha1, ha2⟩, u4, hml⟩ := hm2
  clear u1 u2 u3 u4
  rw [hm] at HMY
  have HP := Mx.hid (fun (i : Nat) (hi : i < o.parents.length) => List.all_eq_true.1 hp _ (List.getElem_mem hi))
  have HPZ := Mx.hid (fun (i : Nat) (hi : i < o.parents.length) => hz.ps o.parents[i] (List.getElem_mem hi))
  have HE := Mx.hid (show encL o = 3 :: (rawL o.tree ++ (UInt8.ofNat o.parents.length :: o.parents.flatMap rawL) ++ putL o.stamp.toNat ++ putL o.author.toNat ++ putL o.msg.size ++ bL o.msg) by unfold encL; rw [if_neg (by omega), if_neg (by omega)])
  have Ht := Mx.hid ht
  have H32 := Mx.hid (raw_len ht)
  have z1 := hz.tr
  obtain ⟨d1, d2, rfl, g1, g2, _⟩ := h.d
  obtain ⟨i1, i2, rfl, g3, g4, _⟩ := h.i
  obtain ⟨p1, p2, blk, off, hpv, g5, g6, _, hcell⟩ := h.p.txt
  have HC := Mx.hid hcell
  clear h hz hm hcell hp ht
  obtain ⟨kind, data, items, tree, parents, stamp, author, msg⟩ := o
  subst hpv
  simp only [OV] at *
  subst hk
  obtain ⟨st, rfl⟩ := Int.eq_ofNat_of_zero_le hs1
  obtain ⟨au, rfl⟩ := Int.eq_ofNat_of_zero_le ha1
  have h9a := putL_9 (show st ≤ 72057594037927936 by omega)
  have h9b := putL_9 (show au ≤ 72057594037927936 by omega)
  have h9c := putL_9 (show msg.size ≤ 72057594037927936 by omega)
  have Hm1 := Mx.hid (show [Value.int .u8 (IntKind.u8.wrap (parents.length : Int))] = bs [UInt8.ofNat parents.length] by
    rw [IntWalk.u8_in _ (by omega)]
    show _ = [Value.int .u8 _]
    rw [UInt8.toNat_ofNat']; congr 2; omega)
  clear hs1 ha1
  have HN := Mx.hid (show parents.length ≤ 2 ∧ msg.size ≤ 200 ∧ st ≤ 1099511627776 ∧ au ≤ 255 ∧ (putL st).length ≤ 9 ∧ (putL au).length ≤ 9 ∧ (putL msg.size).length ≤ 9 from ⟨hpl, hml, by omega, by omega, h9a, h9b, h9c⟩)
  clear hpl hml hs2 ha2 h9a h9b h9c
  go_enter Tryz.func54, Tryz.ntmps54
  go_wp2_with (first | (((with_reducible show wpList _ _ _ _ _ _); refine wpl_box rfl 76 _ rfl (St.refl w) ([.int .i64 3, .slice d1 data.length d2, .slice i1 items.length i2, .string tree, .slice p1 parents.length p2, .int .i64 (st : Int), .int .i64 (au : Int), .string msg]) (by rfl) ?_; intro gx wx hsx); (have x0 := hsx.cell (j := 0) rfl; have x1 := hsx.cell (j := 1) rfl; have x2 := hsx.cell (j := 2) rfl; have x3 := hsx.cell (j := 3) rfl; have x4 := hsx.cell (j := 4) rfl; have x5 := hsx.cell (j := 5) rfl; have x6 := hsx.cell (j := 6) rfl; have x7 := hsx.cell (j := 7) rfl)) | ((with_reducible show wpList _ _ _ _ _ _); refine wpl_loadA rfl 76 _ rfl Tryz.aObj6 (gx) (0) rfl ([.int .i64 3, .slice d1 data.length d2, .slice i1 items.length i2, .string tree, .slice p1 parents.length p2, .int .i64 (st : Int), .int .i64 (au : Int), .string msg]) rfl (fun i u h => by rw [Nat.zero_add]; exact hsx.rcell (List.mem_cons_self ..) h) ?_) | (go_at_call 74; refine (HMY.out _ hsx.bare).mono ?_; rintro e w2 ⟨rfl, hk⟩; replace hsx := hsx.call0 hk; (have x0 := hsx.cell (j := 0) rfl; have x1 := hsx.cell (j := 1) rfl; have x2 := hsx.cell (j := 2) rfl; have x3 := hsx.cell (j := 3) rfl; have x4 := hsx.cell (j := 4) rfl; have x5 := hsx.cell (j := 5) rfl; have x6 := hsx.cell (j := 6) rfl; have x7 := hsx.cell (j := 7) rfl)) | (((with_reducible show wpList _ _ _ _ _ _); refine wpl_lit1 rfl 51 _ rfl Tryz.elU8 hsx (.int .u8 3) (by rfl) (by rfl) ?_; intro gl w3 hs3); have x0 := hs3.rcell (j := 0) (List.mem_cons_of_mem _ (List.mem_cons_self ..)) rfl; have x1 := hs3.rcell (j := 1) (List.mem_cons_of_mem _ (List.mem_cons_self ..)) rfl; have x2 := hs3.rcell (j := 2) (List.mem_cons_of_mem _ (List.mem_cons_self ..)) rfl; have x3 := hs3.rcell (j := 3) (List.mem_cons_of_mem _ (List.mem_cons_self ..)) rfl; have x4 := hs3.rcell (j := 4) (List.mem_cons_of_mem _ (List.mem_cons_self ..)) rfl; have x5 := hs3.rcell (j := 5) (List.mem_cons_of_mem _ (List.mem_cons_self ..)) rfl; have x6 := hs3.rcell (j := 6) (List.mem_cons_of_mem _ (List.mem_cons_self ..)) rfl; have x7 := hs3.rcell (j := 7) (List.mem_cons_of_mem _ (List.mem_cons_self ..)) rfl) | fail)
  have h32 := H32.out
  have hs3' : St w w3 ((⟨.slice (some ⟨gl, 0, none⟩) 1 1, 5, 1, ([3]).length, bs ([3])⟩ : Row) :: (⟨.slice (some ⟨gx, 0, none⟩) 1 1, 76, 8, 1, [.int .i64 3, .slice d1 data.length d2, .slice i1 items.length i2, .string tree, .slice p1 parents.length p2, .int .i64 (st : Int), .int .i64 (au : Int), .string msg]⟩ : Row) :: []) [] := hs3
  have HH1 := Mx.hid (fun wx => rraw_any tree wx z1)
  go_region_held3 (fun W => W.cell? ⟨gx, 3, none⟩ = some (.string tree) ∧ W.cell? ⟨gx, 4, none⟩ = some (.slice p1 parents.length p2)) (first | exact ⟨hsF.rcell (j := 3) (List.mem_cons_of_mem _ (List.mem_cons_self ..)) rfl, hsF.rcell (j := 4) (List.mem_cons_of_mem _ (List.mem_cons_self ..)) rfl⟩ | exact ⟨hsP1.rcell (j := 3) (List.mem_cons_of_mem _ (List.mem_cons_self ..)) rfl, hsP1.rcell (j := 4) (List.mem_cons_of_mem _ (List.mem_cons_self ..)) rfl⟩ | exact ⟨hsP2.rcell (j := 3) (List.mem_cons_of_mem _ (List.mem_cons_self ..)) rfl, hsP2.rcell (j := 4) (List.mem_cons_of_mem _ (List.mem_cons_self ..)) rfl⟩ | exact ⟨hsP3.rcell (j := 3) (List.mem_cons_of_mem _ (List.mem_cons_self ..)) rfl, hsP3.rcell (j := 4) (List.mem_cons_of_mem _ (List.mem_cons_self ..)) rfl⟩ | exact ⟨hsBC.rcell (j := 3) (List.mem_cons_of_mem _ (List.mem_cons_self ..)) rfl, hsBC.rcell (j := 4) (List.mem_cons_of_mem _ (List.mem_cons_self ..)) rfl⟩ | exact ⟨hsC.rcell (j := 3) (List.mem_cons_of_mem _ (List.mem_cons_self ..)) rfl, hsC.rcell (j := 4) (List.mem_cons_of_mem _ (List.mem_cons_self ..)) rfl⟩ | go_keep) (first
    | (refine step_app rfl _ _ 51 rfl Tryz.elU8 (by exact hsP1) rfl (by exact hsP1.q1) (by intro u hu; simp at hu; subst hu; rfl) (by first | omega | (simp; omega)) ?_; intro vF wF hsF _)
    | (refine step_app rfl _ _ 51 rfl Tryz.elU8 (by exact hsP2) rfl (by exact hsP2.q0) (by intro u hu; simp at hu; subst hu; rfl) (by first | omega | (simp; omega)) ?_; intro vF wF hsF _)
    | (refine step_app rfl _ _ 51 rfl Tryz.elU8 (by exact hsP3.alloc _) rfl (by exact Sl.one _ _ _) (by intro u hu; simp at hu; subst hu; rfl) (by first | omega | (simp; omega)) ?_; intro vF wF hsF _)
    | (go_at_call 76; (with_reducible show Calls _ _ _ (World.drew (World.alloc _ _)) _); refine (HH1.out _).mono ?_; rintro e w4 ⟨xv, rfl, hk4⟩; have hsBC := ((hs3'.bq (.int .u8 (IntKind.u8.wrap (parents.length : Int))) 5).drew.call1 hk4).freeze; simp only [] at hsBC)
    | (go_at_call 76; refine (HH1.out _).mono ?_; rintro e w4 ⟨xv, rfl, hk4⟩; have hsC := (hs3'.drew.call1 hk4).freeze; simp only [] at hsC)
    | (refine step_app rfl _ _ 51 rfl Tryz.elU8 (by exact hsBC) rfl (by exact hsBC.q0) (bs_one _) (by simp; omega) ?_; intro vP wP hsP1 _)
    | (refine step_app rfl _ _ 51 rfl Tryz.elU8 (by exact hsC.bq (.int .u8 (IntKind.u8.wrap (parents.length : Int))) 5) rfl (by exact (hsC.bq (.int .u8 (IntKind.u8.wrap (parents.length : Int))) 5).q1) (bs_one _) (by simp; omega) ?_; intro vP wP hsP2 _)
    | (refine step_app rfl _ _ 51 rfl Tryz.elU8 (by exact hsC) rfl (by exact hsC.q0) (bs_one _) (by simp; omega) ?_; intro vP wP hsP3 _))
  all_goals
    have hs6 : St w wF ((⟨vF, 5, 1, ([3] ++ rawL tree ++ [UInt8.ofNat parents.length]).length, bs ([3] ++ rawL tree ++ [UInt8.ofNat parents.length])⟩ : Row) :: (⟨.slice (some ⟨gx, 0, none⟩) 1 1, 76, 8, 1, [.int .i64 3, .slice d1 data.length d2, .slice i1 items.length i2, .string tree, .slice p1 parents.length p2, .int .i64 (st : Int), .int .i64 (au : Int), .string msg]⟩ : Row) :: []) [] := hsF.noQ.cast (by simp <;> omega) (by rw [Hm1.out]; simp [bs])
    have x4 := hs6.rcell (j := 4) (List.mem_cons_of_mem _ (List.mem_cons_self ..)) rfl
    clear hsF hs3 hs3' HH1 hsx
    go_wp2_with fail
    go_loopw [4, 7] (fun x y wr => ∃ (i : Nat) (acc : List UInt8), i ≤ parents.length ∧ y = .int .i64 i ∧ acc.length = 34 + 32 * i ∧ Hid (acc = 3 :: (rawL tree ++ (UInt8.ofNat parents.length :: (parents.take i).flatMap rawL))) ∧ St w wr [(⟨x, 5, 1, (acc).length, bs (acc)⟩ : Row), (⟨.slice (some ⟨gx, 0, none⟩) 1 1, 76, 8, 1, [.int .i64 3, .slice d1 data.length d2, .slice i1 items.length i2, .string tree, .slice p1 parents.length p2, .int .i64 (st : Int), .int .i64 (au : Int), .string msg]⟩ : Row)] []) (fun _ y _ => parents.length - (intOf y).toNat)
    case atStart => exact ⟨0, [3] ++ rawL tree ++ [UInt8.ofNat parents.length], by omega, rfl, by simp; omega, by simp [Hid], hs6⟩
    case round =>
      obtain ⟨i, acc, hi, rfl, hac, He, hs⟩ := hrel
      have c9 := hs.rcell (j := 4) (List.mem_cons_of_mem _ (List.mem_cons_self ..)) rfl
      obtain ⟨n1, n2, n3, n4, h9a, h9b, h9c⟩ := HN.out
      by_cases hlt : i < parents.length
      · obtain ⟨rfl, c0⟩ := HC.out i hlt
        have c0 := hs.keep c0
        have hpz := HPZ.out i hlt
        have HT := Mx.hid (show (parents.take (i + 1)).flatMap rawL = (parents.take i).flatMap rawL ++ rawL parents[i] by rw [List.take_succ_eq_append_getElem hlt, List.flatMap_append]; simp)
        have H3 := Mx.hid (raw_len (HP.out i hlt))
        have hal : acc.length ≤ 1000 := by omega
        have HH3 := Mx.hid (fun (wx : World) => rraw_any parents[i] wx hpz)
        have h3l := H3.out
        have Hac := Mx.hid hac
        clear hac n1 n2 n3 n4 h9a h9b h9c
        generalize parents[i] = s at *
        go_wp2_with (first | (go_at_call 76; refine (HH3.out _).mono ?_; rintro e w6 ⟨xw, rfl, hk6⟩; have hs6 := (hs.call1 hk6).freeze; simp only [] at hs6) | (at_builtin; refine wpl_app rfl _ _ 51 rfl Tryz.elU8 hs6 rfl (by exact hs6.q0) (bs_one _) (by omega) ?_; intro v7 w7 hs7 _))
        go_roundw
        case rel =>
          repeat apply Exists.intro
          refine And.intro ?_ rfl
          exact ⟨i + 1, acc ++ rawL s, by omega, by go_num, by have := H3.out; have := Hac.out; simp; omega, by rw [HT.out, He.out]; simp [Hid], hs7.noQ.cast (by simp) (by rw [bs_app])⟩
        case measure => simp [intOf]; omega
      · have hF : encL ⟨3, data, items, tree, parents, (st : Int), (au : Int), msg⟩ = acc ++ putL st ++ putL au ++ putL msg.size ++ bL msg := by
          have h2 := He.out
          rw [List.take_of_length_le (by omega)] at h2
          rw [HE.out, h2]
          simp
        have HF := Mx.hid hF
        have hal : acc.length ≤ 1000 := by omega
        have ha1 : (acc ++ putL st).length ≤ 2000 := by simp; omega
        have ha2 : (acc ++ putL st ++ putL au).length ≤ 3000 := by simp; omega
        have ha3 : (acc ++ putL st ++ putL au ++ putL msg.size).length ≤ 4000 := by simp; omega
        have HX1 := Mx.hid (fun (wx : World) => rnum_any st wx (by omega))
        have HX2 := Mx.hid (fun (wx : World) => rnum_any au wx (by omega))
        have HX3 := Mx.hid (fun (wx : World) => rnum_any msg.size wx (by omega))
        generalize putL st = P1 at *
        generalize putL au = P2 at *
        generalize putL msg.size = P3 at *
        clear hac hF n1 n3 n4
        simp only [List.length_append] at ha1 ha2 ha3
        go_wp2_with fail
        go_region_held3 (fun W => W.cell? ⟨gx, 5, none⟩ = some (.int .i64 (st : Int)) ∧ W.cell? ⟨gx, 6, none⟩ = some (.int .i64 (au : Int)) ∧ W.cell? ⟨gx, 7, none⟩ = some (.string msg)) (first | exact ⟨hK3.rcell (j := 5) (List.mem_cons_of_mem _ (List.mem_cons_self ..)) rfl, hK3.rcell (j := 6) (List.mem_cons_of_mem _ (List.mem_cons_self ..)) rfl, hK3.rcell (j := 7) (List.mem_cons_of_mem _ (List.mem_cons_self ..)) rfl⟩ | exact ⟨h23.rcell (j := 5) (List.mem_cons_of_mem _ (List.mem_cons_self ..)) rfl, h23.rcell (j := 6) (List.mem_cons_of_mem _ (List.mem_cons_self ..)) rfl, h23.rcell (j := 7) (List.mem_cons_of_mem _ (List.mem_cons_self ..)) rfl⟩ | exact ⟨h13.rcell (j := 5) (List.mem_cons_of_mem _ (List.mem_cons_self ..)) rfl, h13.rcell (j := 6) (List.mem_cons_of_mem _ (List.mem_cons_self ..)) rfl, h13.rcell (j := 7) (List.mem_cons_of_mem _ (List.mem_cons_self ..)) rfl⟩ | exact ⟨h22.rcell (j := 5) (List.mem_cons_of_mem _ (List.mem_cons_self ..)) rfl, h22.rcell (j := 6) (List.mem_cons_of_mem _ (List.mem_cons_self ..)) rfl, h22.rcell (j := 7) (List.mem_cons_of_mem _ (List.mem_cons_self ..)) rfl⟩ | exact ⟨h03.rcell (j := 5) (List.mem_cons_of_mem _ (List.mem_cons_self ..)) rfl, h03.rcell (j := 6) (List.mem_cons_of_mem _ (List.mem_cons_self ..)) rfl, h03.rcell (j := 7) (List.mem_cons_of_mem _ (List.mem_cons_self ..)) rfl⟩ | exact ⟨h12.rcell (j := 5) (List.mem_cons_of_mem _ (List.mem_cons_self ..)) rfl, h12.rcell (j := 6) (List.mem_cons_of_mem _ (List.mem_cons_self ..)) rfl, h12.rcell (j := 7) (List.mem_cons_of_mem _ (List.mem_cons_self ..)) rfl⟩ | exact ⟨h02.rcell (j := 5) (List.mem_cons_of_mem _ (List.mem_cons_self ..)) rfl, h02.rcell (j := 6) (List.mem_cons_of_mem _ (List.mem_cons_self ..)) rfl, h02.rcell (j := 7) (List.mem_cons_of_mem _ (List.mem_cons_self ..)) rfl⟩ | exact ⟨h11.rcell (j := 5) (List.mem_cons_of_mem _ (List.mem_cons_self ..)) rfl, h11.rcell (j := 6) (List.mem_cons_of_mem _ (List.mem_cons_self ..)) rfl, h11.rcell (j := 7) (List.mem_cons_of_mem _ (List.mem_cons_self ..)) rfl⟩ | exact ⟨h01.rcell (j := 5) (List.mem_cons_of_mem _ (List.mem_cons_self ..)) rfl, h01.rcell (j := 6) (List.mem_cons_of_mem _ (List.mem_cons_self ..)) rfl, h01.rcell (j := 7) (List.mem_cons_of_mem _ (List.mem_cons_self ..)) rfl⟩ | exact ⟨hs.rcell (j := 5) (List.mem_cons_of_mem _ (List.mem_cons_self ..)) rfl, hs.rcell (j := 6) (List.mem_cons_of_mem _ (List.mem_cons_self ..)) rfl, hs.rcell (j := 7) (List.mem_cons_of_mem _ (List.mem_cons_self ..)) rfl⟩ | go_keep) (first
          | (refine step_app rfl _ _ 51 rfl Tryz.elU8 (by exact h23) rfl (by exact h23.q0) (bs_one _) (by omega) ?_; intro vK wK hK3 _)
          | (refine step_app rfl _ _ 51 rfl Tryz.elU8 (by exact h13) rfl (by exact h13.q1) (bs_one _) (by omega) ?_; intro v23 w23 h23 _)
          | (refine step_app rfl _ _ 51 rfl Tryz.elU8 (by exact h03) rfl (by exact h03.q2) (bs_one _) (by omega) ?_; intro v13 w13 h13 _)
          | (go_at_call 75; have := h22; refine (HX3.out _).mono ?_; rintro e w33 ⟨x3, rfl, hk⟩; have h23 := (h22.call1 hk).freeze; simp only [] at h23; clear hk)
          | (go_at_call 75; have := h12; refine (HX3.out _).mono ?_; rintro e w33 ⟨x3, rfl, hk⟩; have h13 := (h12.call1 hk).freeze; simp only [] at h13; clear hk)
          | (refine step_app rfl _ _ 51 rfl Tryz.elU8 (by exact h12) rfl (by exact h12.q0) (bs_one _) (by omega) ?_; intro v22 w22 h22 _)
          | (go_at_call 75; have := h02; refine (HX3.out _).mono ?_; rintro e w33 ⟨x3, rfl, hk⟩; have h03 := (h02.call1 hk).freeze; simp only [] at h03; clear hk)
          | (refine step_app rfl _ _ 51 rfl Tryz.elU8 (by exact h02) rfl (by exact h02.q1) (bs_one _) (by omega) ?_; intro v12 w12 h12 _)
          | (go_at_call 75; have := h11; refine (HX2.out _).mono ?_; rintro e w32 ⟨x2, rfl, hk⟩; have h12 := (h11.call1 hk).freeze; simp only [] at h12; clear hk)
          | (go_at_call 75; have := h01; refine (HX2.out _).mono ?_; rintro e w32 ⟨x2, rfl, hk⟩; have h02 := (h01.call1 hk).freeze; simp only [] at h02; clear hk)
          | (refine step_app rfl _ _ 51 rfl Tryz.elU8 (by exact h01) rfl (by exact h01.q0) (bs_one _) (by omega) ?_; intro v11 w11 h11 _)
          | (go_at_call 75; refine (HX1.out _).mono ?_; rintro e w31 ⟨x1, rfl, hk⟩; have h01 := (hs.drew.call1 hk).freeze; simp only [] at h01; clear hk))
        all_goals
          have hs13 : St w wK ((⟨vK, 5, 1, (acc ++ P1 ++ P2 ++ P3).length, bs (acc ++ P1 ++ P2 ++ P3)⟩ : Row) :: (⟨.slice (some ⟨gx, 0, none⟩) 1 1, 76, 8, 1, [.int .i64 3, .slice d1 data.length d2, .slice i1 items.length i2, .string tree, .slice p1 parents.length p2, .int .i64 (st : Int), .int .i64 (au : Int), .string msg]⟩ : Row) :: []) [] := hK3.noQ.cast (by simp <;> omega) (by rw [bs_app, bs_app, bs_app])
          have x7 := hs13.rcell (j := 7) (List.mem_cons_of_mem _ (List.mem_cons_self ..)) rfl
          clear hs hK3
          have ha4 : (acc ++ P1 ++ P2 ++ P3).length ≤ 4000 := by simp only [List.length_append]; omega
          generalize acc ++ P1 ++ P2 ++ P3 = A3 at *
          go_wp2_with (at_builtin; refine wpl_app_str rfl _ _ 51 9 rfl Tryz.elU8 Tryz.underlying9 hs13 rfl rfl (by omega) ?_; intro v14 w14 hs14 _)
          go_ret2
          exact ⟨_, rfl, by rw [HF.out]; exact hs14.head.cast (by simp [bL]) (by rw [bs_app]; rfl)⟩

theorem rencode_any (dv iv pv : Value) (o : Ob) (w : World) (h : OB w dv iv pv o) (hz : OZ o) (hdl : o.data.length ≤ 1000000000000) (hil : o.items.length ≤ 1000000000000) :
    Calls Tryz.prog 54 #[OV dv iv pv o] w (EncPost w o) := by
  unfold EncPost
  cases hm : mayB o with
  | false => exact renc_bad dv iv pv o w h hz hdl hil hm
  | true =>
    rcases may_kind hm with hk | hk | hk
    · exact renc_blob dv iv pv o w h hz hdl hil hm hk
    · exact renc_tree dv iv pv o w h hz hdl hil hm hk
    · exact renc_commit dv iv pv o w h hz hdl hil hm hk
end Go.Proofs.YtloogjdafhjheaaGreat

namespace Go.Mx
open Go Go.RowKit
theorem dec_cases (b : List UInt8) : b = [] ∧ decO b = (noOb, 2) ∨ b ≠ [] ∧ decO b = (noOb, 4) ∨ ∃ o, decO b = (o, 0) ∧ mayB o = true ∧ encL o = b := by
  match b with
  | [] => exact .inl ⟨rfl, rfl⟩
  | k :: r =>
    by_cases h : mayB (readO (k.toNat : Int) r) = true ∧ encL (readO (k.toNat : Int) r) = k :: r
    · exact .inr (.inr ⟨_, by unfold decO; simp only []; rw [if_pos h], h⟩)
    · exact .inr (.inl ⟨by simp, by unfold decO; simp only []; rw [if_neg h]⟩)
end Go.Mx

namespace Go.Mx
open Go Go.RowKit

/-- A number; once something lacked, none more. -/
def nmR (s : Src) : Nat × Src := if s.2 = true then (0, s) else nm s
def rdItemsR : Nat → Src → List Itm × Src
  | 0, s => ([], s)
  | n + 1, s => if s.2 = true then ([], s) else
    let m := on s
    let k := nmR m.2
    let t := tk k.1 k.2
    let h := hs t.2
    let r := rdItemsR n h.2
    (((m.1 : Int), str t.1, h.1) :: r.1, r.2)
/-- What stands behind the kind; did something lack? -/
def readR (kind : Int) (b : List UInt8) : Ob × Bool :=
  if kind = 1 then (⟨kind, b, [], str [], [], 0, 0, str []⟩, false)
  else if kind = 2 then
    let n := nmR (b, false)
    let r := rdItemsR n.1 n.2
    (⟨kind, [], r.1, str [], [], 0, 0, str []⟩, r.2.2)
  else if kind = 3 then
    let t := hs (b, false)
    let n := on t.2
    let p := rdPars n.1 n.2
    let s := nmR p.2
    let a := nmR s.2
    let k := nmR a.2
    let m := tk k.1 k.2
    (⟨kind, [], [], t.1, p.1, s.1, a.1, str m.1⟩, m.2.2)
  else (⟨kind, [], [], str [], [], 0, 0, str []⟩, false)
def decR (b : List UInt8) : Ob × Int :=
  match b with
  | [] => (noOb, 2)
  | k :: r => if (readR (k.toNat : Int) r).2 = false ∧ mayB (readR (k.toNat : Int) r).1 = true ∧ encL (readR (k.toNat : Int) r).1 = b then ((readR (k.toNat : Int) r).1, 0) else (noOb, 4)
theorem nmR_app {x : Nat} (h : x ≤ 72057594037927936) (r : List UInt8) : nmR (putL x ++ r, false) = (x, (r, false)) := by
  unfold nmR
  rw [if_neg (by simp), nm_app h]
theorem rdItemsR_app : ∀ (l : List Itm) (r : List UInt8), l.all itemB = true → rdItemsR l.length (l.flatMap itemL ++ r, false) = (l, (r, false))
  | [], r, _ => rfl
  | (m, nme, id) :: l, r, h => by
    rw [List.all_cons, Bool.and_eq_true] at h
    obtain ⟨hx, hl⟩ := h
    simp only [itemB, Bool.and_eq_true, decide_eq_true_eq] at hx
    obtain ⟨⟨hm, hn⟩, hv⟩ := hx
    have hsz : nme.size = (bL nme).length := by simp [bL]
    have hn2 : (bL nme).length ≤ 64 := by
      simp only [nameB, Bool.and_eq_true, decide_eq_true_eq] at hn
      exact hn.2.2.1
    have e1 : ((m, nme, id) :: l).flatMap itemL ++ r = UInt8.ofNat m.toNat :: (putL nme.size ++ (bL nme ++ (rawL id ++ (l.flatMap itemL ++ r)))) := by
      simp [itemL]
    have e2 : ((UInt8.ofNat m.toNat).toNat : Int) = m := by rw [UInt8.toNat_ofNat']; omega
    rw [List.length_cons, e1, rdItemsR, if_neg (by simp)]
    simp only [on_app, hsz, nmR_app (show (bL nme).length ≤ 72057594037927936 by omega), tk_app rfl, hs_app (raw_len hv), rdItemsR_app l r hl, raw_hex hv, str_bL, e2]
theorem readR_enc {o : Ob} (h : mayB o = true) : ∃ k r, encL o = k :: r ∧ (k.toNat : Int) = o.kind ∧ readR o.kind r = (o, false) := by
  obtain ⟨kind, data, items, tree, parents, stamp, author, msg⟩ := o
  unfold mayB at h
  simp only [] at h
  by_cases h1 : kind = 1
  · subst h1
    simp only [if_true, Bool.and_eq_true, decide_eq_true_eq, bareB] at h
    obtain ⟨⟨_, rfl⟩, rfl, rfl, rfl, rfl, rfl⟩ := h
    exact ⟨1, data, by simp [encL], rfl, by simp [readR]⟩
  by_cases h2 : kind = 2
  · subst h2
    simp only [show ¬ (2 : Int) = 1 by omega, if_false, if_true, Bool.and_eq_true, decide_eq_true_eq, bareB, itemsB] at h
    obtain ⟨⟨rfl, ⟨hi, _⟩, hl⟩, rfl, rfl, rfl, rfl, rfl⟩ := h
    refine ⟨2, putL items.length ++ items.flatMap itemL, by simp [encL], rfl, ?_⟩
    have := rdItemsR_app items [] hi
    rw [List.append_nil] at this
    simp [readR, nmR_app (show items.length ≤ 72057594037927936 by omega), this]
  by_cases h3 : kind = 3
  · subst h3
    simp only [show ¬ (3 : Int) = 1 by omega, show ¬ (3 : Int) = 2 by omega, if_false, if_true, Bool.and_eq_true, decide_eq_true_eq, parentsB, msgB] at h
    obtain ⟨⟨⟨⟨⟨⟨rfl, rfl⟩, ht⟩, ⟨hp, _⟩, hpl⟩, hs1, hs2⟩, ha1, ha2⟩, _, hml⟩ := h
    have hsz : msg.size = (bL msg).length := by simp [bL]
    refine ⟨3, rawL tree ++ (UInt8.ofNat parents.length :: parents.flatMap rawL) ++ putL stamp.toNat ++ putL author.toNat ++ putL msg.size ++ bL msg, by simp [encL], rfl, ?_⟩
    have e2 : (UInt8.ofNat parents.length).toNat = parents.length := by rw [UInt8.toNat_ofNat']; omega
    have e3 := tk_app (n := (bL msg).length) (l := bL msg) (r := []) rfl
    rw [List.append_nil] at e3
    simp only [readR, show ¬ (3 : Int) = 1 by omega, show ¬ (3 : Int) = 2 by omega, if_false, if_true, List.append_assoc, List.cons_append, hs_app (raw_len ht), on_app, e2, rdPars_app parents _ hp, nmR_app (show stamp.toNat ≤ 72057594037927936 by omega),
      nmR_app (show author.toNat ≤ 72057594037927936 by omega), hsz, nmR_app (show (bL msg).length ≤ 72057594037927936 by omega), e3, raw_hex ht, str_bL]
    refine Prod.ext ?_ rfl
    simp only []
    congr 1 <;> omega
  · rw [if_neg h1, if_neg h2, if_neg h3] at h; cases h
theorem decR_eq (b : List UInt8) : decR b = decO b := by
  match b with
  | [] => rfl
  | k :: r =>
    by_cases h : (readR (k.toNat : Int) r).2 = false ∧ mayB (readR (k.toNat : Int) r).1 = true ∧ encL (readR (k.toNat : Int) r).1 = k :: r
    · have h2 := dec_enc h.2.1
      rw [h.2.2] at h2
      rw [h2]
      unfold decR
      simp only []
      rw [if_pos h]
    · unfold decR
      simp only []
      rw [if_neg h]
      rcases dec_cases (k :: r) with ⟨h1, _⟩ | ⟨_, hd⟩ | ⟨o, hd, ho, he⟩
      · simp at h1
      · exact hd.symm
      · exfalso
        obtain ⟨k', r', f1, f2, f3⟩ := readR_enc ho
        rw [he] at f1
        cases f1
        rw [← f2] at f3
        exact h ⟨by rw [f3], by rw [f3]; exact ho, by rw [f3]; exact he⟩
end Go.Mx

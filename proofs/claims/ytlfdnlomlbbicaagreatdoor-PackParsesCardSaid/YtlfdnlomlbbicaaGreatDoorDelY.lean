/- The walk of Make. -/
import Derived.Test.YtlfdnlomlbbicaaGreatDoorJ12Index
namespace Go.Proofs.YtlfdnlomlbbicaaGreatDoor
open Go.RowKit Go.Mx

set_option maxRecDepth 100000 in
set_option maxHeartbeats 4000000 in
theorem make_any (w : World) (vb vt : Value) (base target : List UInt8) (hb : Sl w 1 vb base.length (bs base)) (ht : Sl w 1 vt target.length (bs target)) (hbl : base.length ≤ 20000) (htl : target.length ≤ 20000) (hIx : IndexOk w) :
    Calls Tryz.prog 21 #[vb, vt] w (MakePost w base target) := by
  have b1 : ¬ ((20000 : Int) < (base.length : Int)) := by omega
  have b2 : ¬ ((20000 : Int) < (target.length : Int)) := by omega
  have HB := Mx.hid hb
  have HT := Mx.hid ht
  have hcd := fun (i : Nat) (h : i ≤ target.length) => cutD ht h
  have HCD := Mx.hid hcd
  obtain ⟨bo, bc, rfl, _⟩ := id hb
  obtain ⟨to, tc, tblk, toff, rfl, _, _, _, hct⟩ := ht.byt
  have HC := Mx.hid hct
  clear hb ht hct hcd
  have hinv := fun O I p (h : MkInv base target O I p) => h.len hbl htl
  have HL := Mx.hid hinv
  clear hinv
  have h0 := MkInv.start base target
  have e0 : 0 + (putL base.length).length + (putL target.length).length = (putL base.length ++ putL target.length).length := by rw [List.length_append]; omega
  have e1 : [] ++ bs (putL base.length) ++ bs (putL target.length) = bs (putL base.length ++ putL target.length) := by rw [bs_app]; rfl
  have H0 := Mx.hid h0
  have E0 := Mx.hid (And.intro e0 e1)
  clear h0 e0 e1
  have l1 := putL_small hbl
  have l2 := putL_small htl
  go_enter Tryz.func21, Tryz.ntmps21
  go_wp2_with fail
  refine (number_app w w [] [] _ _ 0 base.length (St.nil w 5 1) (by omega) (by omega)).mono ?_
  rintro e w1 ⟨x1, rfl, hs1⟩
  generalize hl1 : (putL base.length).length = p1 at *
  go_wp2_with fail
  refine (number_app w w1 [] [] _ _ _ target.length hs1 (by omega) (by omega)).mono ?_
  rintro e w2 ⟨x2, rfl, hs2⟩
  have hs3 := hs2.cast E0.out.1 E0.out.2
  obtain ⟨xo, xc, rfl, _⟩ := id hs3.sl0
  generalize hOO : putL base.length ++ putL target.length = O0 at *
  go_wp2_with fail
  have hs4 := ((hs3.madeAt #[.slice xo O0.length xc] 25 1 1 w2.heap.size rfl (by simp [maxLen]) rfl).madeAt #[.slice none 0 0] 25 1 1 (w2.heap.size + 1) rfl (by simp [maxLen]) (heap_size_alloc _ _).symm).addNil 5 1
  generalize (w2.alloc _).alloc _ = w3 at hs4 ⊢
  generalize w2.heap.size + 1 = gf at hs4 ⊢
  generalize w2.heap.size = gd at hs4 ⊢
  have hs5 : St w w3 [dbyr (.slice xo O0.length xc) O0, cel gd (.slice xo O0.length xc), cel gf (.slice none 0 0), dbyr (.slice none 0 0) []] [] := hs4.perm (List.reverse_perm [_, _, _, _]).symm
  clear hs4 hs3 hs2 hs1
  go_loopw [8] (fun x wr => ∃ (p : Nat) (O I : List UInt8) (vd vf : Value), x = .int .i64 p ∧ p ≤ target.length ∧ I.length ≤ p ∧ Hid (MkInv base target O I p) ∧ St w wr [dbyr vd O, cel gd vd, cel gf vf, dbyr vf I] []) (fun x _ => target.length - (intOf x).toNat)
  case atStart => exact ⟨0, O0, [], _, _, rfl, by omega, by simp, H0, hs5⟩
  case round =>
    obtain ⟨p, O, I, vd, vf, rfl, hp, hI, HM, hs⟩ := hrel
    have hO := HL.out _ _ _ HM.out
    obtain ⟨oo, oc, rfl, _⟩ := id hs.sl0
    have hsf : Sl wr 1 vf I.length (bs I) := hs.sl (r := dbyr vf I) (by simp)
    obtain ⟨io, ic, rfl, _⟩ := id hsf
    by_cases hlt : p < target.length
    · obtain ⟨yo, yc, py, qy⟩ := HCD.out p hp
      have hlt' : (p : Int) < (target.length : Int) := by omega
      have hy := Mx.hid (qy _ HT.out)
      clear qy hsf
      go_wp2_with fail
      refine (match_any wr _ _ base (target.drop p) (hs.old HB.out) (hs.old hy.out) hbl (by rw [List.length_drop]; omega) (hIx.keep hs)).mono ?_
      rintro e w4 ⟨rfl, hk⟩
      have hs4 := hs.call0 hk
      have hmi := mt_inv base (target.drop p)
      have hmc := mc_iff base (target.drop p)
      rw [List.length_drop] at hmi
      obtain ⟨m1, m2, _⟩ := hmi
      have hcopy := fun (h : p < target.length) => HM.out.copy h
      have hhold := fun (h : p < target.length) => HM.out.hold h
      have HCOPY := Mx.hid @hcopy
      have HHOLD := Mx.hid @hhold
      clear hcopy hhold
      generalize mtN base (target.drop p) = N at *
      generalize mtP base (target.drop p) = P at *
      generalize mcN base (target.drop p) = N' at *
      generalize mcP base (target.drop p) = P' at *
      by_cases h8 : N < 8
      · have h8' : (N' : Int) < 8 := by have := hmc.1.2 h8; omega
        have HHOLD := Mx.hid (HHOLD.out hlt h8)
        obtain ⟨rfl, cx⟩ := HC.out p hlt
        have HCX := Mx.hid cx
        have cx := hs4.keep cx
        generalize target[p] = x at *
        have cf : w4.cell? ⟨gf, 0, none⟩ = some (.slice io I.length ic) := hs4.rcell (List.mem_cons_of_mem _ (List.mem_cons_of_mem _ (List.mem_cons_self ..))) rfl
        clear hmc HCOPY m1 m2 h8
        go_wp2_with fail
        (refine wp_region_S (7) (fun W' => W'.cell? ⟨gf, 0, none⟩ = some (.slice io I.length ic) ∧ W'.cell? ⟨tblk, toff + p, none⟩ = some (.int .u8 (x.toNat : Int))) (by kernel_rfl) ?_ (fun hHeld => ?_); (focus ((try dsimp only); go_keep)))
        (refine wpAnyS_takeL (i := 0) (v := ?_) rfl (by kernel_rfl) (by kernel_rfl) (by kernel_rfl) (by kernel_rfl) (by kernel_rfl) (by kernel_rfl) (fun _ _ _ h => h) (Or.inl ⟨by rfl, ?_⟩) hHeld ?_; rotate_left 1; (focus (intro w' hSw; (try dsimp only at hSw); go_simp; (try with_reducible rfl))); (try simp only [Act.put, List.setIfInBounds_toArray, List.set_cons_zero, List.set_cons_succ]))
        (refine wpAnyS_takeL (i := 1) (v := ?_) rfl (by kernel_rfl) (by kernel_rfl) (by kernel_rfl) (by kernel_rfl) (by kernel_rfl) (by kernel_rfl) (fun _ _ _ h => h) (Or.inl ⟨by rfl, ?_⟩) hHeld ?_; rotate_left 1; (focus (intro w' hSw; (try dsimp only at hSw); go_simp; (try with_reducible rfl))); (try simp only [Act.put, List.setIfInBounds_toArray, List.set_cons_zero, List.set_cons_succ]))
        (refine wpAnyS_takeL (i := 2) (v := ?_) rfl (by kernel_rfl) (by kernel_rfl) (by kernel_rfl) (by kernel_rfl) (by kernel_rfl) (by kernel_rfl) (fun _ _ _ h => h) (Or.inl ⟨by rfl, ?_⟩) hHeld ?_; rotate_left 1; (focus (intro w' hSw; (try dsimp only at hSw); go_simp; (try with_reducible rfl))); (try simp only [Act.put, List.setIfInBounds_toArray, List.set_cons_zero, List.set_cons_succ]))
        (refine wpAnyS_takeL (i := 3) (v := ?_) rfl (by kernel_rfl) (by kernel_rfl) (by kernel_rfl) (by kernel_rfl) (by kernel_rfl) (by kernel_rfl) (fun _ _ _ h => h) (Or.inl ⟨by rfl, ?_⟩) hHeld ?_; rotate_left 1; (focus (intro w' hSw; (try dsimp only at hSw); go_simp; (try with_reducible rfl))); (try simp only [Act.put, List.setIfInBounds_toArray, List.set_cons_zero, List.set_cons_succ]))
        (refine wpAnyS_takeL (i := 4) (v := ?_) rfl (by kernel_rfl) (by kernel_rfl) (by kernel_rfl) (by kernel_rfl) (by kernel_rfl) (by kernel_rfl) (fun _ _ _ h => h) (Or.inl ⟨by rfl, ?_⟩) hHeld ?_; rotate_left 1; (focus (intro w' hSw; (try dsimp only at hSw); go_simp; (try with_reducible rfl))); (try simp only [Act.put, List.setIfInBounds_toArray, List.set_cons_zero, List.set_cons_succ]))
        have hs0 := hs4.drew.alloc (.cells #[.int .u8 (x.toNat : Int)] 5)
        (refine wpAnyS_ready (rs := [5]) (by kernel_rfl) (by simp) ?_; refine AllS.consL rfl (fun K hK => ?_) AllS.nil)
        go_simp
        (refine hK.out _ _ ?_ (fun hHeld => ?_); (focus ((try dsimp only); exact ⟨hs0.rcell (List.mem_cons_of_mem _ (List.mem_cons_of_mem _ (List.mem_cons_self ..))) rfl, hs0.keep (HCX.out)⟩)); clear hK K; (try simp only [Act.put, List.setIfInBounds_toArray, List.set_cons_zero, List.set_cons_succ]))
        have hs6 := hs0.perm (List.reverse_perm _).symm
        (refine wpAnyS_ready (rs := [6]) (by kernel_rfl) (by simp) ?_; refine AllS.consL rfl (fun K hK => ?_) AllS.nil)
        (refine step_app rfl _ _ 25 rfl Tryz.elU8 (by exact hs6) rfl (by exact Sl.one _ _ _) (by intro u hu; simp at hu; subst hu; rfl) (by omega) ?_; intro v9 w9 hs9 _)
        obtain ⟨dd, dc, rfl, _⟩ := id hs9.sl0
        (refine hK.out _ _ ?_ (fun hHeld => ?_); (focus ((try dsimp only); exact ⟨hs9.rcell (List.mem_cons_of_mem _ (List.mem_cons_self ..)) rfl, hs9.keep (HCX.out)⟩)); clear hK K; (try simp only [Act.put, List.setIfInBounds_toArray, List.set_cons_zero, List.set_cons_succ]))
        (refine wpAnyS_seq (by rfl) (by kernel_rfl) ?_; simp only [List.drop_succ_cons, List.drop_zero])
        have hs10 := hs9.swap
        go_wp2_with ((with_reducible show wpList _ _ _ _ _ _); refine wpl_store1 rfl 25 _ _ rfl hs10 (0) rfl (.slice dd (I.length + 1) dc) rfl rfl (by kernel_rfl) (by simp) rfl ?_; intro wA hsA)
        have hsB : St w wA [cel gf (.slice dd (I.length + 1) dc), ⟨.slice dd (I.length + 1) dc, 5, 1, I.length + 1, bs I ++ [.int .u8 (x.toNat : Int)]⟩, cel gd (.slice oo O.length oc), dbyr (.slice oo O.length oc) O] [] := hsA
        have hsC := (hsB.swap.cast (n' := (I ++ [x]).length) (xs' := bs (I ++ [x])) (by simp) (by rw [bs_app]; rfl)).perm (List.reverse_perm _).symm
        go_roundw
        case rel => exact ⟨p + 1, O, I ++ [x], _, _, by go_num, by omega, by rw [List.length_append]; simp; omega, HHOLD, hsC⟩
        case measure => simp only [intOf]; omega
      · have h8' : ¬ ((N' : Int) < 8) := by have := hmc.1; omega
        obtain ⟨g1, g2⟩ := hmc.2 (by omega)
        subst g1 g2
        have HCOPY := Mx.hid (HCOPY.out hlt (by omega))
        clear HHOLD hmc
        have hfl := flR_len I (by omega)
        go_wp2_with fail
        refine (flush_any w w4 gd gf _ _ O I hs4 (by omega) (by omega)).mono ?_
        rintro e w5 ⟨v5, rfl, hs5⟩
        have hfl : (O ++ flR I).length ≤ 200000 := by rw [List.length_append]; omega
        generalize hOF : O ++ flR I = OF at *
        obtain ⟨fo, fc, rfl, _⟩ := id hs5.sl0
        have cd : w5.cell? ⟨gd, 0, none⟩ = some (.slice fo OF.length fc) := hs5.rcell (List.mem_cons_of_mem _ (List.mem_cons_self ..)) rfl
        go_wp2_with (at_builtin; refine wpl_app rfl _ _ 25 rfl Tryz.elU8 (hs5.alloc _) rfl (by exact Sl.one _ _ _) (by intro u hu; simp at hu; subst hu; rfl) (by omega) ?_; intro v6 w6 hs6 _)
        refine (number_app w w6 _ _ _ _ _ P' hs6 (by omega) (by omega)).mono ?_
        rintro e w7 ⟨v7, rfl, hs7⟩
        have la := putL_small (n := P') (by omega)
        have lc := putL_small (n := N') (by omega)
        generalize hla : (putL P').length = pa at *
        go_wp2_with fail
        refine (number_app w w7 _ _ _ _ _ N' hs7 (by omega) (by omega)).mono ?_
        rintro e w8 ⟨v8, rfl, hs8⟩
        generalize hlc : (putL N').length = pc at *
        have hse := hs8.cast (n' := (OF ++ (1 :: (putL P' ++ putL N'))).length) (xs' := bs (OF ++ (1 :: (putL P' ++ putL N')))) (by simp only [List.length_append, List.length_cons, hla, hlc]; omega) (by simp only [bs_app, bs_cons]; simp)
        have HCO := Mx.hid (HCOPY.out)
        generalize OF ++ (1 :: (putL P' ++ putL N')) = O2 at *
        obtain ⟨go, gc, rfl, _⟩ := id hse.sl0
        have hsf := hse.swap
        clear hs8 hs7 hs6 hs5
        go_wp2_with ((with_reducible show wpList _ _ _ _ _ _); refine wpl_store1 rfl 25 _ _ rfl hsf (0) rfl (.slice go O2.length gc) rfl rfl (by kernel_rfl) (by simp) rfl ?_; intro wA hsA)
        have hsB : St w wA [cel gd (.slice go O2.length gc), dbyr (.slice go O2.length gc) O2, cel gf (.slice none 0 0)] [] := hsA
        have hsC := hsB.swap.addNil 5 1
        go_roundw
        case rel => exact ⟨p + N', O2, [], _, _, by go_num, by omega, by simp, HCO, hsC.perm (List.perm_append_comm (l₁ := [_]) (l₂ := [_, _, _]))⟩
        case measure => simp only [intOf]; omega
    · have hpe : p = target.length := by omega
      subst hpe
      have hlt' : ¬ ((target.length : Int) < (target.length : Int)) := by omega
      have HF := Mx.hid HM.out.fin
      clear hsf hlt hp
      go_wp2_with fail
      refine (flush_any w wr gd gf _ _ O I hs (by omega) (by omega)).mono ?_
      rintro e w5 ⟨v5, rfl, hs5⟩
      obtain ⟨fo, fc, rfl, _⟩ := id hs5.sl0
      have cd : w5.cell? ⟨gd, 0, none⟩ = some (.slice fo (O ++ flR I).length fc) := hs5.rcell (List.mem_cons_of_mem _ (List.mem_cons_self ..)) rfl
      generalize hfl : (O ++ flR I).length = fl at *
      go_wp2_with fail
      go_ret
      unfold MakePost
      rw [HF.out, hfl]
      exact ⟨_, rfl, hs5.head.cast hfl rfl⟩
end Go.Proofs.YtlfdnlomlbbicaaGreatDoor

/- The walk of a pack's reader: all objects. -/
import Derived.Test.YtlfdnlomlbbicaaDoorJBPkO
namespace Go.Mx
open Go Go.RowKit
theorem rdAll_bad {f : ByteArray → Option (List UInt8)} {len n : Nat} {pre : List (List UInt8 × Nat)} {pl : List Nat} {r : List UInt8} (h : (rdOne f pre r).1 ≠ 0) : rdAll f len (n + 1) pre pl r = ((rdOne f pre r).1, pre, pl) := by
  have h1 : rdObj f pre r = rdOne f pre r := by unfold rdObj; rw [if_pos h]
  rw [rdAll, h1, if_pos h]
theorem rdAll_form {f : ByteArray → Option (List UInt8)} {len n : Nat} {pre : List (List UInt8 × Nat)} {pl : List Nat} {r : List UInt8} (h : (rdOne f pre r).1 = 0) (hd : (decO (rdOne f pre r).2.1).2 ≠ 0) : rdAll f len (n + 1) pre pl r = (4, pre, pl) := by
  have h1 : rdObj f pre r = gBad 4 := by unfold rdObj; rw [if_neg (by simpa using h), if_pos hd]
  rw [rdAll, h1, if_pos (by simp [gBad])]
  rfl
theorem rdAll_step {f : ByteArray → Option (List UInt8)} {len n : Nat} {pre : List (List UInt8 × Nat)} {pl : List Nat} {r : List UInt8} (h : (rdOne f pre r).1 = 0) (hd : (decO (rdOne f pre r).2.1).2 = 0) :
    rdAll f len (n + 1) pre pl r = rdAll f len n (pre ++ [((rdOne f pre r).2.1, (rdOne f pre r).2.2.1)]) (pl ++ [len - r.length]) (rdOne f pre r).2.2.2 := by
  have h1 : rdObj f pre r = rdOne f pre r := by unfold rdObj; rw [if_neg (by simpa using h), if_neg (by simpa using hd)]
  rw [rdAll, h1, if_neg (by simpa using h)]
end Go.Mx
namespace Go.Proofs.YtlfdnlomlbbicaaDoor
open Go.RowKit Go.Mx
set_option maxRecDepth 100000 in
set_option maxHeartbeats 4000000 in
theorem pall_any (w0 w : World) (g : Nat) (v : Value) (fb : FuncId) (caps : Array Value) (f : ByteArray → Option (List UInt8)) (body : List UInt8)
    (hs : St w0 w [prd g v v (.func (.func fb) #[] caps) (.slice none 0 0) (.slice none 0 0) 0] []) (hl : Sl w0 1 v body.length (bs body)) (hn : body.length ≤ 140737488355328) (h4 : 4 ≤ body.length)
    (hB : BaseOk fb caps f w0) (hbz : ∀ id x, f id = some x → x.length ≤ 1000000000) (hL : Laid w0) :
    Calls Tryd.prog 30 #[.pointer (some ⟨g, 0, none⟩)] w (AllPost w0 g v (.func (.func fb) #[] caps) (rdBody f body)) := by
  obtain ⟨X, hX⟩ : ∃ X, rdBody f body = X := ⟨_, rfl⟩
  rw [hX]
  have HT := Mx.hid (ptake_ok w0 w _ _ g v v _ _ _ body 3 hs hl (by omega))
  have HB := Mx.hid hB
  have HBZ := Mx.hid hbz
  obtain ⟨vbo, vbc, rfl, _⟩ := id hl
  generalize hvb : Value.slice vbo body.length vbc = vb at *
  have HVB := Mx.hid hvb
  clear hvb
  unfold rdBody at hX
  have ht := str_beq (body.take 3) [77, 80, 49]
  rw [str_toL [77, 80, 49]] at ht
  have hn3 : (body.drop 3).length ≤ 140737488355328 := by rw [List.length_drop]; omega
  clear hl hB hbz hs
  go_enter Tryd.func30, Tryd.ntmps30
  go_wp2_with fail
  refine HT.out.mono ?_
  rintro e w1 ⟨x1, y1, rfl, hx1, hy1, hs⟩
  have HY1 := Mx.hid hy1
  have hx1' := hs.old hx1
  clear HT hx1 hy1
  have HNIL := Mx.hid (fun (A : Int) (y : Value) (w9 : World) (hXA : X = (A, [], [])) (h : St w0 w9 [prd g vb y (.func (.func fb) #[] caps) (.slice none 0 0) (.slice none 0 0) A] []) => (show AllPost w0 g vb (.func (.func fb) #[] caps) X (.returned (.tuple #[])) w9 by
    subst hXA
    exact ⟨rfl, y, .slice none 0 0, .slice none 0 0, [], rfl, rfl, by simp, ((h.addNil 25 1).addNil 38 3).perm (List.reverse_perm [_, _, _]).symm⟩))
  generalize hbase : Value.func (.func fb) #[] caps = base at *
  by_cases hmag : body.take 3 = [77, 80, 49]
  · rw [if_neg (by simpa using hmag)] at hX
    rw [decide_eq_true hmag] at ht
    clear hmag
    go_wp2_with (first | ((with_reducible show wpList _ _ _ _ _ _); refine wpl_b2s rfl 25 9 5 _ rfl Tryd.underlying25 Tryd.underlying5 Tryd.underlying9 (by exact hx1') ?_))
    refine (pnumber_go w0 w1 _ _ g vb y1 base _ _ (body.drop 3) hs HY1.out hn3).mono ?_
    unfold PNumPost
    rintro e w2 ⟨y2, rfl, hy2, hs2⟩
    have HY2 := Mx.hid hy2
    have hbad := fun (h : nmE (body.drop 3) ≠ 0) => (nm_bad h).1
    have hgood := fun (h : nmE (body.drop 3) = 0) => (nm_good h).1
    have hn4 : ((body.drop 3).drop (nmJ (body.drop 3))).length ≤ body.length := by rw [List.length_drop, List.length_drop]; omega
    generalize nmE (body.drop 3) = E at *
    generalize nmN (body.drop 3) = M at *
    generalize (body.drop 3).drop (nmJ (body.drop 3)) = l0 at *
    obtain ⟨yo, yc, rfl, _⟩ := id hy2
    clear hs hy2
    by_cases hE : E = 0
    · subst hE
      rw [if_neg (by simp)] at hX
      have hM := hgood rfl
      clear hbad hgood
      by_cases hb : 512 < M
      · rw [if_pos hb] at hX
        have HP := Mx.hid (fun (y : Value) (w9 : World) h => HNIL.out 14 y w9 hX.symm h)
        have hA : (14 : Int) ≠ 0 := by simp
        have d1 : decide ((512 : Int) < (M : Int)) = true := decide_eq_true (by omega)
        have d2 : decide ((0 : Int) < (M : Int)) = true := decide_eq_true (by omega)
        have d2' : decide (0 < M) = true := decide_eq_true (by omega)
        have d2'' : 0 < M := by omega
        have hf := pfail_any w0 w2 _ _ g vb (.slice yo l0.length yc) base _ _ 0 14 hs2
        rw [if_pos rfl] at hf
        have HFF := Mx.hid hf
        clear hf hX hb hs2
        generalize l0.length = L at *
        go_wp2_with (go_at_call 42; refine HFF.out.mono ?_; rintro e w3 ⟨rfl, hs⟩)
        go_loopw [3] (fun q wr => q = .int .i64 0 ∧ w3 = wr) (fun _ _ => 0)
        case atStart => exact ⟨rfl, rfl⟩
        case round =>
          obtain ⟨rfl, rfl⟩ := hrel
          have c1 : w3.cell? ⟨g, 1, none⟩ = some (.slice yo L yc) := hs.rcell (List.mem_cons_self ..) rfl
          have c5 : w3.cell? ⟨g, 5, none⟩ = some (.int .i64 14) := hs.rcell (List.mem_cons_self ..) rfl
          by_cases hz0 : 0 < L
          · have f1 : decide ((0 : Int) < (L : Int)) = true := decide_eq_true (by omega)
            have f2 : decide (0 < L) = true := decide_eq_true hz0
            have hfz := pfail_any w0 w3 _ _ g vb (.slice yo L yc) base _ _ 14 3 hs
            rw [if_neg hA] at hfz
            have HFZ := Mx.hid hfz
            clear hfz hz0
            go_wp2_with (first | ((with_reducible show wpList _ _ _ _ _ _); refine wpl_want rfl ?_) | (go_at_call 42; refine HFZ.out.mono ?_; rintro e w9 ⟨rfl, hs9⟩))
            go_end0
            exact HP.out _ _ hs9
          · have f1 : decide ((0 : Int) < (L : Int)) = false := decide_eq_false (by omega)
            have f2 : decide (0 < L) = false := decide_eq_false hz0
            clear hz0
            go_wp2_with (first | ((with_reducible show wpList _ _ _ _ _ _); refine wpl_want rfl ?_))
            go_end0
            exact HP.out _ _ hs
      · rw [if_neg hb] at hX
        have d1 : decide ((512 : Int) < (M : Int)) = false := decide_eq_false (by omega)
        have HX := Mx.hid hX
        clear hX
        have hM5 : M ≤ 512 := by omega
        clear hM hb
        subst hbase
        have hs3 := ((hs2.addNil 25 1).addNil 38 3).perm (List.reverse_perm [_, _, _]).symm
        have HS3 : Hid (St w0 w2 [prd g vb (.slice yo l0.length yc) (.func (.func fb) #[] caps) (.slice none 0 0) (.slice none 0 0) 0, orow (.slice none 0 0) 0 [], wrow (.slice none 0 0) 0 (rws [] [])] []) := hs3
        clear hs2 hs3
        go_wp2_with fail
        go_loopw [3] (fun q wr => ∃ (i : Nat) (pre : List (List UInt8 × Nat)) (pl : List Nat) (us : List Value) (vr vo vw : Value) (l : List UInt8), q = .int .i64 i ∧ i ≤ M ∧ Hid (pre.length = i) ∧ Hid (pl.length = i) ∧ Hid (us.length = i) ∧ Hid (∀ p ∈ pre, p.1.length ≤ 20000) ∧ Hid (rdAll f body.length (M - i) pre pl l = X) ∧ Hid (Sl w0 1 vr l.length (bs l)) ∧ l.length ≤ body.length ∧
            St w0 wr [prd g vb vr (.func (.func fb) #[] caps) vo vw 0, orow vo pre.length us, wrow vw pre.length (rws pre pl)] (rds us (pre.map Prod.fst))) (fun q _ => M - (intOf q).toNat)
        case atStart => exact ⟨0, [], [], [], _, _, _, l0, rfl, by omega, rfl, rfl, rfl, by simp [Hid], Mx.hid HX.out, HY2, hn4, HS3.out⟩
        case round =>
          clear HS3 HX HY2 hn4
          obtain ⟨i, pre, pl, us, vr, vo, vw, l, rfl, hi, HP1, HP2, HP3, HPZ, HX, HVR, hll, hs⟩ := hrel
          obtain ⟨ro, rc, rfl, _⟩ := id HVR.out
          have c5 : wr.cell? ⟨g, 5, none⟩ = some (.int .i64 0) := hs.rcell (List.mem_cons_self ..) rfl
          have c1 : wr.cell? ⟨g, 1, none⟩ = some (.slice ro l.length rc) := hs.rcell (List.mem_cons_self ..) rfl
          by_cases hlt : i < M
          · have hMi : M - i = (M - (i + 1)) + 1 := by omega
            rw [hMi] at HX
            have hi5 : pre.length ≤ 512 := by rw [HP1.out]; omega
            have HOB := Mx.hid (fun (wx : World) (h : St w0 wx [prd g vb (.slice ro l.length rc) (.func (.func fb) #[] caps) vo vw 0, orow vo pre.length us, wrow vw pre.length (rws pre pl)] (rds us (pre.map Prod.fst))) => pobj_any w0 wx [] _ g vb (.slice ro l.length rc) vo vw fb caps f pre pl us l h HVR.out (by omega) (by rw [HP2.out, HP1.out]) (by rw [HP3.out, HP1.out]) hi5 HPZ.out rds_mem HB.out HBZ.out hL)
            have hBAD := fun h => (rdAll_bad (f := f) (len := body.length) (n := M - (i + 1)) (pre := pre) (pl := pl) (r := l) h).symm.trans HX.out
            have hFRM := fun h h2 => (rdAll_form (f := f) (len := body.length) (n := M - (i + 1)) (pre := pre) (pl := pl) (r := l) h h2).symm.trans HX.out
            have hSTP := fun h h2 => (rdAll_step (f := f) (len := body.length) (n := M - (i + 1)) (pre := pre) (pl := pl) (r := l) h h2).symm.trans HX.out
            have hxl := rdOne_le f pre l
            have hrl := rdOne_rest f pre l
            obtain ⟨P, hP⟩ : ∃ P, body.length - l.length = P := ⟨_, rfl⟩
            have hPI : (body.length : Int) - (l.length : Int) = (P : Int) := by omega
            rw [hP] at hSTP
            have d3 : decide (i < M) = true := decide_eq_true hlt
            have d4 : (i : Int) < (M : Int) := by omega
            have hvb := HVB.out
            have c0 : wr.cell? ⟨g, 0, none⟩ = some vb := hs.rcell (List.mem_cons_self ..) rfl
            rw [← hvb] at c0
            clear HX hMi hvb
            generalize rdOne f pre l = G at *
            obtain ⟨er, X1, dp, l2⟩ := G
            simp only at hBAD hFRM hSTP hxl hrl HOB
            have HBAD := Mx.hid hBAD
            have HFRM := Mx.hid hFRM
            have HSTP := Mx.hid hSTP
            clear hBAD hFRM hSTP hlt hP
            have HFIN := Mx.hid (fun (A : Int) (y : Value) (w9 : World) (hXA : (A, pre, pl) = X) (h : St w0 w9 [prd g vb y (.func (.func fb) #[] caps) vo vw A, orow vo pre.length us, wrow vw pre.length (rws pre pl)] (rds us (pre.map Prod.fst))) => (show AllPost w0 g vb (.func (.func fb) #[] caps) X (.returned (.tuple #[])) w9 by
              subst hXA
              exact ⟨rfl, y, vo, vw, us, by rw [HP3.out, HP1.out], by rw [HP2.out, HP1.out], hi5, h⟩))
            generalize hLL : l.length = L at *
            go_wp2_with (first | ((with_reducible show wpList _ _ _ _ _ _); refine wpl_want rfl ?_))
            refine wp_region_C (fun W' => St w0 W' [prd g vb (.slice ro L rc) (.func (.func fb) #[] caps) vo vw 0, orow vo pre.length us, wrow vw pre.length (rws pre pl)] (rds us (pre.map Prod.fst))) (by kernel_rfl) (by kernel_rfl) (by exact hs.drew) ?_
            repeat ((first | (refine cq_y0 (v := ?_) (by with_reducible rfl) ?_ ?_; rotate_left 1; (focus (intro wq hq; (try dsimp only at hq); (have d0 : wq.cell? ⟨g, 0, none⟩ = some (.slice vbo body.length vbc) := (by rw [HVB.out]; exact hq.rcell (List.mem_cons_self ..) rfl); have d1 : wq.cell? ⟨g, 1, none⟩ = some (.slice ro L rc) := hq.rcell (List.mem_cons_self ..) rfl); go_simp; (first | done | with_reducible rfl | fail)))) | (refine cq_no (by go_simp; first | done | (intro h9; cases h9)) ?_) | (refine cq_yes (v := ?_) (by go_simp) ?_ ?_; rotate_left 1; (focus (intro wq hq; (try dsimp only at hq); (have d0 : wq.cell? ⟨g, 0, none⟩ = some (.slice vbo body.length vbc) := (by rw [HVB.out]; exact hq.rcell (List.mem_cons_self ..) rfl); have d1 : wq.cell? ⟨g, 1, none⟩ = some (.slice ro L rc) := hq.rcell (List.mem_cons_self ..) rfl); go_simp; (first | done | with_reducible rfl | fail))))); (try simp only [Act.put, List.setIfInBounds_toArray, List.set_cons_zero, List.set_cons_succ]))
            refine cq_nil ?_
            intro wq hq
            (try dsimp only at hq)
            clear hs c0 c1 c5
            go_wp2_with fail
            refine (HOB.out _ hq).mono ?_
            unfold ObPost
            rintro e w3 ⟨vx, dd, y3, rfl, hcase⟩
            simp only at hcase
            clear hq HOB
            rcases hcase with ⟨hA, hs3⟩ | ⟨hA, rfl, hy3, hs3⟩
            · have c5 : w3.cell? ⟨g, 5, none⟩ = some (.int .i64 er) := hs3.rcell (List.mem_cons_self ..) rfl
              have he' : (er != 0) = true := by simpa using hA
              have HE := Mx.hid (HBAD.out hA)
              clear hA
              go_wp2_with fail
              go_end0
              exact HFIN.out _ _ _ HE.out hs3
            · subst hA
              have c5 : w3.cell? ⟨g, 5, none⟩ = some (.int .i64 0) := hs3.rcell (List.mem_cons_of_mem _ (List.mem_cons_self ..)) rfl
              have HFR := Mx.hid (fun h => HFRM.out rfl h)
              have HST := Mx.hid (fun h => HSTP.out rfl h)
              have HY3 := Mx.hid hy3
              obtain ⟨xo, xc, rfl, _⟩ := id hs3.sl0
              have hs4 := hs3.freeze
              dsimp only at hs4
              have hD := decode_any _ X1 w3 hs4.q0 (by omega)
              unfold DecPost at hD
              have HD := Mx.hid hD
              clear HBAD HFRM HSTP hy3 hs3 hD
              go_wp2_with fail
              refine HD.out.mono ?_
              rintro e w4 ⟨dv, iv, pv, rfl, h3⟩
              generalize (decO X1).1 = o at *
              generalize (decO X1).2 = e2 at *
              clear HD
              obtain ⟨kq, dq, iq, tq, pq, sq, aq, mq⟩ := o
              obtain ⟨qd1, qd2, rfl, _⟩ := id (show Sl w4 1 dv dq.length (bs dq) from h3.sl0)
              obtain ⟨qi1, qi2, rfl, _⟩ := id (show Sl w4 3 iv iq.length (itms iq) from h3.sl1)
              obtain ⟨qp1, qp2, rfl, _⟩ := id (show Sl w4 1 pv pq.length (ss pq) from h3.sl2)
              simp only [OV, obR] at h3 ⊢
              by_cases h0 : e2 = 0
              · have HST2 := Mx.hid (HST.out h0)
                subst h0
                clear HFR HST
                go_wp2_with (first | (((with_reducible show wpList _ _ _ _ _ _); refine wpl_storeA rfl 54 _ _ rfl Tryd.aObj (h3.madeAt ([.int .i64 (0), .slice none 0 0, .slice none 0 0, .string (str []), .slice none 0 0, .int .i64 (0), .int .i64 (0), .string (str [])]).toArray 54 8 1 _ rfl (by simp [maxLen]) rfl) (0) rfl ([.int .i64 kq, .slice qd1 dq.length qd2, .slice qi1 iq.length qi2, .string tq, .slice qp1 pq.length qp2, .int .i64 sq, .int .i64 aq, .string mq]) rfl (by rfl) (by simp) (by intro u hu; simp at hu; rcases hu with rfl | rfl | rfl | rfl | rfl | rfl | rfl | rfl <;> rfl) ?_; intro w5 hs5); have hsA := hs4.call0 hs5.bare; have c3 : w5.cell? ⟨g, 3, none⟩ = some vo := hsA.rcell (List.mem_cons_self ..) rfl) | (at_builtin; refine wpl_app rfl _ _ 22 rfl Tryd.elBs (hsA.swap.alloc _) rfl (by exact Sl.one _ _ _) (by intro u hu; simp at hu; subst hu; rfl) (by omega) ?_; intro v6 w6 hs6 _; obtain ⟨oo, oc, rfl, _⟩ := id hs6.sl0) | ((with_reducible show wpList _ _ _ _ _ _); refine wpl_store1 rfl 22 _ _ rfl hs6.swap (3) rfl (.slice oo (pre.length + 1) oc) rfl rfl (by kernel_rfl) (by simp) rfl ?_; intro w7 hs7))
                have hs8 : St w0 w7 [prd g vb y3 (.func (.func fb) #[] caps) (.slice oo (pre.length + 1) oc) vw 0, orow (.slice oo (pre.length + 1) oc) (pre.length + 1) (us ++ [.slice xo X1.length xc]), wrow vw pre.length (rws pre pl)] (⟨.slice xo X1.length xc, 1, X1.length, bs X1⟩ :: rds us (pre.map Prod.fst)) := hs7
                have HS8 := Mx.hid hs8
                clear hs7 hs6 hsA hs5 h3 hs4 c3 c5
                (refine wp_region_S (12) (fun W' => W'.cell? ⟨g, 4, none⟩ = some vw) (by kernel_rfl) ?_ (fun hHeld => ?_); (focus ((try dsimp only); exact HS8.out.drew.rcell (List.mem_cons_self ..) rfl)))
                (refine wpAnyS_takeL (i := 0) (v := ?_) rfl (by kernel_rfl) (by kernel_rfl) (by kernel_rfl) (by kernel_rfl) (by kernel_rfl) (by kernel_rfl) (fun _ _ _ h => h) (Or.inl ⟨by rfl, ?_⟩) hHeld ?_; rotate_left 1; (focus (intro w' hSw; (try dsimp only at hSw); go_simp; (try with_reducible rfl))); (try simp only [Act.put, List.setIfInBounds_toArray, List.set_cons_zero, List.set_cons_succ]))
                (refine wpAnyS_takeL (i := 1) (v := ?_) rfl (by kernel_rfl) (by kernel_rfl) (by kernel_rfl) (by kernel_rfl) (by kernel_rfl) (by kernel_rfl) (fun _ _ _ h => h) (Or.inl ⟨by rfl, ?_⟩) hHeld ?_; rotate_left 1; (focus (intro w' hSw; (try dsimp only at hSw); go_simp; (try with_reducible rfl))); (try simp only [Act.put, List.setIfInBounds_toArray, List.set_cons_zero, List.set_cons_succ]))
                (refine wpAnyS_takeL (i := 2) (v := ?_) rfl (by kernel_rfl) (by kernel_rfl) (by kernel_rfl) (by kernel_rfl) (by kernel_rfl) (by kernel_rfl) (fun _ _ _ h => h) (Or.inl ⟨by rfl, ?_⟩) hHeld ?_; rotate_left 1; (focus (intro w' hSw; (try dsimp only at hSw); go_simp; (try with_reducible rfl))); (try simp only [Act.put, List.setIfInBounds_toArray, List.set_cons_zero, List.set_cons_succ]))
                (refine wpAnyS_takeL (i := 3) (v := ?_) rfl (by kernel_rfl) (by kernel_rfl) (by kernel_rfl) (by kernel_rfl) (by kernel_rfl) (by kernel_rfl) (fun _ _ _ h => h) (Or.inl ⟨by rfl, ?_⟩) hHeld ?_; rotate_left 1; (focus (intro w' hSw; (try dsimp only at hSw); go_simp; (try with_reducible rfl))); (try simp only [Act.put, List.setIfInBounds_toArray, List.set_cons_zero, List.set_cons_succ]))
                (refine wpAnyS_takeL (i := 4) (v := ?_) rfl (by kernel_rfl) (by kernel_rfl) (by kernel_rfl) (by kernel_rfl) (by kernel_rfl) (by kernel_rfl) (fun _ _ _ h => h) (Or.inl ⟨by rfl, ?_⟩) hHeld ?_; rotate_left 1; (focus (intro w' hSw; (try dsimp only at hSw); go_simp; (try with_reducible rfl))); (try simp only [Act.put, List.setIfInBounds_toArray, List.set_cons_zero, List.set_cons_succ]))
                (refine wpAnyS_takeL (i := 5) (v := ?_) rfl (by kernel_rfl) (by kernel_rfl) (by kernel_rfl) (by kernel_rfl) (by kernel_rfl) (by kernel_rfl) (fun _ _ _ h => h) (Or.inl ⟨by rfl, ?_⟩) hHeld ?_; rotate_left 1; (focus (intro w' hSw; (try dsimp only at hSw); go_simp; (try with_reducible rfl))); (try simp only [Act.put, List.setIfInBounds_toArray, List.set_cons_zero, List.set_cons_succ]))
                (refine wpAnyS_takeL (i := 7) (v := ?_) rfl (by kernel_rfl) (by kernel_rfl) (by kernel_rfl) (by kernel_rfl) (by kernel_rfl) (by kernel_rfl) (fun _ _ _ h => h) (Or.inl ⟨by rfl, ?_⟩) hHeld ?_; rotate_left 1; (focus (intro w' hSw; (try dsimp only at hSw); go_simp; (try with_reducible rfl))); (try simp only [Act.put, List.setIfInBounds_toArray, List.set_cons_zero, List.set_cons_succ]))
                (refine wpAnyS_takeL (i := 8) (v := ?_) rfl (by kernel_rfl) (by kernel_rfl) (by kernel_rfl) (by kernel_rfl) (by kernel_rfl) (by kernel_rfl) (fun _ _ _ h => h) (Or.inl ⟨by rfl, ?_⟩) hHeld ?_; rotate_left 1; (focus (intro w' hSw; (try dsimp only at hSw); go_simp; (try with_reducible rfl))); (try simp only [Act.put, List.setIfInBounds_toArray, List.set_cons_zero, List.set_cons_succ]))
                (refine wpAnyS_ready (rs := [6]) (by kernel_rfl) (by simp) ?_; refine AllS.consL rfl (fun K hK => ?_) AllS.nil)
                (go_simp; go_at_call 12; refine (id_any _ X1 _ (HS8.out.drew.q0) (by omega) (fun w' h => hL.keep (HS8.out.drew.call0 h))).mono ?_; rintro e w' ⟨rfl, hk⟩; go_wp2_with fail)
                have hs10 := HS8.out.drew.call0 hk
                (refine hK.out _ _ ?_ (fun hHeld => ?_); (focus ((try dsimp only); exact hs10.rcell (List.mem_cons_self ..) rfl)); clear hK K; (try simp only [Act.put, List.setIfInBounds_toArray, List.set_cons_zero, List.set_cons_succ]))
                (refine wpAnyS_takeL (i := 9) (v := ?_) rfl (by kernel_rfl) (by kernel_rfl) (by kernel_rfl) (by kernel_rfl) (by kernel_rfl) (by kernel_rfl) (fun _ _ _ h => h) (Or.inl ⟨by rfl, ?_⟩) hHeld ?_; rotate_left 1; (focus (intro w' hSw; (try dsimp only at hSw); go_simp; (try with_reducible rfl))); (try simp only [Act.put, List.setIfInBounds_toArray, List.set_cons_zero, List.set_cons_succ]))
                (refine wpAnyS_ready (rs := [10]) (by kernel_rfl) (by simp) ?_; refine AllS.consL rfl (fun K hK => ?_) AllS.nil)
                go_simp
                (refine hK.out _ _ ?_ (fun hHeld => ?_); (focus ((try dsimp only); exact (hs10.alloc _).rcell (List.mem_cons_self ..) rfl)); clear hK K; (try simp only [Act.put, List.setIfInBounds_toArray, List.set_cons_zero, List.set_cons_succ]))
                (refine wpAnyS_ready (rs := [11]) (by kernel_rfl) (by simp) ?_; refine AllS.consL rfl (fun K hK => ?_) AllS.nil)
                have hs11 := hs10.perm (List.perm_append_comm (l₁ := [_, _]) (l₂ := [_]))
                refine step_app rfl _ _ 33 rfl Tryd.elRow (by exact hs11.alloc _) rfl (by exact ((St.refl _).made #[.string (str (hexL (sha X1))), .int .i64 (P : Int), .int .i64 (dp : Int)] 38 3 1 rfl (by simp [maxLen])).sl0) (by intro u hu; simp at hu; rcases hu with rfl | rfl | rfl <;> rfl) (by omega) ?_
                intro v9 w9 hs12 _
                obtain ⟨wo, wc, rfl, _⟩ := id hs12.sl0
                (refine hK.out _ _ ?_ (fun hHeld => ?_); (focus ((try dsimp only); exact hs12.swap.rcell (List.mem_cons_self ..) rfl)); clear hK K; (try simp only [Act.put, List.setIfInBounds_toArray, List.set_cons_zero, List.set_cons_succ]))
                (refine wpAnyS_seq (by rfl) (by kernel_rfl) ?_; simp only [List.drop_succ_cons, List.drop_zero])
                go_wp2_with ((with_reducible show wpList _ _ _ _ _ _); refine wpl_store1 rfl 33 _ _ rfl hs12.swap (4) rfl (.slice wo (pre.length + 1) wc) rfl rfl (by kernel_rfl) (by simp) rfl ?_; intro wA hsA)
                have hsB : St w0 wA [prd g vb y3 (.func (.func fb) #[] caps) (.slice oo (pre.length + 1) oc) (.slice wo (pre.length + 1) wc) 0, wrow (.slice wo (pre.length + 1) wc) (pre.length + 1) (rws pre pl ++ rwc X1 P dp), orow (.slice oo (pre.length + 1) oc) (pre.length + 1) (us ++ [.slice xo X1.length xc])] (⟨.slice xo X1.length xc, 1, X1.length, bs X1⟩ :: rds us (pre.map Prod.fst)) := hsA
                have hlen : (pre ++ [(X1, dp)]).length = pre.length + 1 := by simp
                have hsC : St w0 wA [prd g vb y3 (.func (.func fb) #[] caps) (.slice oo (pre.length + 1) oc) (.slice wo (pre.length + 1) wc) 0, orow (.slice oo (pre.length + 1) oc) (pre ++ [(X1, dp)]).length (us ++ [.slice xo X1.length xc]), wrow (.slice wo (pre.length + 1) wc) (pre ++ [(X1, dp)]).length (rws (pre ++ [(X1, dp)]) (pl ++ [P]))] (rds (us ++ [.slice xo X1.length xc]) ((pre ++ [(X1, dp)]).map Prod.fst)) := by
                  rw [rws_snoc _ _ _ _ _ (by rw [HP2.out, HP1.out]), hlen, List.map_append, List.map_cons, List.map_nil, rds_snoc _ _ _ _ (by rw [List.length_map, HP3.out, HP1.out])]
                  exact (hsB.perm (List.Perm.cons _ (List.Perm.swap _ _ _))).sub (List.Sublist.refl _) (fun q hq => by
                    rcases List.mem_append.1 hq with h | h
                    · exact List.mem_cons_of_mem _ h
                    · rw [List.mem_singleton.1 h]; exact List.mem_cons_self ..)
                case roundEnd =>
                  exact ⟨⟨i + 1, pre ++ [(X1, dp)], pl ++ [P], us ++ [.slice xo X1.length xc], y3, _, _, l2, by go_num, by omega, Mx.hid (by rw [hlen, HP1.out]), Mx.hid (by rw [List.length_append, HP2.out]; rfl), Mx.hid (by rw [List.length_append, HP3.out]; rfl), Mx.hid (fun p hp => by
                    rcases List.mem_append.1 hp with h | h
                    · exact HPZ.out p h
                    · rw [List.mem_singleton.1 h]; exact hxl), Mx.hid HST2.out, HY3, by omega, hsC⟩, by simp [intOf]; omega⟩
              · have HE := Mx.hid (HFR.out h0)
                have he' : (e2 != 0) = true := by simpa using h0
                clear HFR HST h0
                have HFF := Mx.hid (fun (wx : World) (h : St w3 wx [] []) => pfail_any w0 wx _ _ g vb y3 (.func (.func fb) #[] caps) vo vw 0 4 (hs4.call0 h).tailQ)
                rw [if_pos rfl] at HFF
                go_wp2_with (first | (((with_reducible show wpList _ _ _ _ _ _); refine wpl_storeA rfl 54 _ _ rfl Tryd.aObj (h3.madeAt ([.int .i64 (0), .slice none 0 0, .slice none 0 0, .string (str []), .slice none 0 0, .int .i64 (0), .int .i64 (0), .string (str [])]).toArray 54 8 1 _ rfl (by simp [maxLen]) rfl) (0) rfl ([.int .i64 kq, .slice qd1 dq.length qd2, .slice qi1 iq.length qi2, .string tq, .slice qp1 pq.length qp2, .int .i64 sq, .int .i64 aq, .string mq]) rfl (by rfl) (by simp) (by intro u hu; simp at hu; rcases hu with rfl | rfl | rfl | rfl | rfl | rfl | rfl | rfl <;> rfl) ?_; intro w5 hs5)) | (go_at_call 42; refine (HFF.out _ hs5.bare).mono ?_; rintro e w6 ⟨rfl, hs6⟩))
                go_end0
                exact HFIN.out _ _ _ HE.out hs6
          · obtain rfl : i = M := by omega
            rw [Nat.sub_self] at HX
            have hX := HX.out
            rw [rdAll] at hX
            have d2 : decide (i < i) = false := decide_eq_false (by omega)
            have hi5 : pre.length ≤ 512 := by rw [HP1.out]; omega
            have HFIN := Mx.hid (fun (A : Int) (y : Value) (w9 : World) (hXA : (A, pre, pl) = X) (h : St w0 w9 [prd g vb y (.func (.func fb) #[] caps) vo vw A, orow vo pre.length us, wrow vw pre.length (rws pre pl)] (rds us (pre.map Prod.fst))) => (show AllPost w0 g vb (.func (.func fb) #[] caps) X (.returned (.tuple #[])) w9 by
              subst hXA
              exact ⟨rfl, y, vo, vw, us, by rw [HP3.out, HP1.out], by rw [HP2.out, HP1.out], hi5, h⟩))
            have hf := pfail_any w0 wr _ _ g vb (.slice ro l.length rc) (.func (.func fb) #[] caps) vo vw 0 3 hs
            rw [if_pos rfl] at hf
            have HFF := Mx.hid hf
            clear hf
            by_cases hz0 : l = []
            · rw [if_pos hz0] at hX
              have HXX := Mx.hid hX
              have f2 : decide (0 < l.length) = false := by rw [hz0]; rfl
              have f3 : l.length = 0 := by rw [hz0]; rfl
              clear hX hz0
              generalize l.length = L at *
              subst f3
              go_wp2_with (first | ((with_reducible show wpList _ _ _ _ _ _); refine wpl_want rfl ?_))
              go_end0
              exact HFIN.out _ _ _ HXX.out hs
            · rw [if_neg hz0] at hX
              have HXX := Mx.hid hX
              have f3 : 0 < l.length := List.length_pos_iff.2 hz0
              have f2 : decide (0 < l.length) = true := decide_eq_true f3
              clear hX hz0
              generalize l.length = L at *
              go_wp2_with (first | ((with_reducible show wpList _ _ _ _ _ _); refine wpl_want rfl ?_) | (go_at_call 42; refine HFF.out.mono ?_; rintro e w6 ⟨rfl, hs6⟩))
              go_end0
              exact HFIN.out _ _ _ HXX.out hs6
    · have hA := hE
      rw [if_pos hE] at hX
      have HP := Mx.hid (fun (y : Value) (w9 : World) h => HNIL.out E y w9 hX.symm h)
      have hM := hbad hE
      subst hM
      have he' : (E == 0) = false := by simpa using hE
      clear hbad hgood hX hE
      generalize l0.length = L at *
      go_wp2_with fail
      go_loopw [3] (fun q wr => q = .int .i64 0 ∧ w2 = wr) (fun _ _ => 0)
      case atStart => exact ⟨rfl, rfl⟩
      case round =>
        obtain ⟨rfl, rfl⟩ := hrel
        have c1 : w2.cell? ⟨g, 1, none⟩ = some (.slice yo L yc) := hs2.rcell (List.mem_cons_self ..) rfl
        have c5 : w2.cell? ⟨g, 5, none⟩ = some (.int .i64 E) := hs2.rcell (List.mem_cons_self ..) rfl
        by_cases hz0 : 0 < L
        · have f1 : decide ((0 : Int) < (L : Int)) = true := decide_eq_true (by omega)
          have f2 : decide (0 < L) = true := decide_eq_true hz0
          have hfz := pfail_any w0 w2 _ _ g vb (.slice yo L yc) base _ _ E 3 hs2
          rw [if_neg hA] at hfz
          have HFZ := Mx.hid hfz
          clear hfz hz0
          go_wp2_with (first | ((with_reducible show wpList _ _ _ _ _ _); refine wpl_want rfl ?_) | (go_at_call 42; refine HFZ.out.mono ?_; rintro e w9 ⟨rfl, hs9⟩))
          go_end0
          exact HP.out _ _ hs9
        · have f1 : decide ((0 : Int) < (L : Int)) = false := decide_eq_false (by omega)
          have f2 : decide (0 < L) = false := decide_eq_false hz0
          clear hz0
          go_wp2_with (first | ((with_reducible show wpList _ _ _ _ _ _); refine wpl_want rfl ?_))
          go_end0
          exact HP.out _ _ hs2
  · rw [if_pos hmag] at hX
    rw [decide_eq_false hmag] at ht
    have HP := Mx.hid (fun (y : Value) (w9 : World) h => HNIL.out 4 y w9 hX.symm h)
    have hA : (4 : Int) ≠ 0 := by simp
    have hf := pfail_any w0 w1 _ _ g vb y1 base _ _ 0 4 hs
    rw [if_pos rfl] at hf
    have HFF := Mx.hid hf
    obtain ⟨yo, yc, rfl, _⟩ := id HY1.out
    clear hf hX hmag hs
    generalize (body.drop 3).length = L at *
    go_wp2_with (first | ((with_reducible show wpList _ _ _ _ _ _); refine wpl_b2s rfl 25 9 5 _ rfl Tryd.underlying25 Tryd.underlying5 Tryd.underlying9 (by exact hx1') ?_) | (go_at_call 42; refine HFF.out.mono ?_; rintro e w2 ⟨rfl, hs⟩) | (go_at_call 43; refine (pnumber_stop w2 g 4 (hs.rcell (List.mem_cons_self ..) rfl) hA).mono ?_; rintro e w3 ⟨rfl, hk3⟩; replace hs := hs.call0 hk3))
    go_loopw [3] (fun q wr => q = .int .i64 0 ∧ w3 = wr) (fun _ _ => 0)
    case atStart => exact ⟨rfl, rfl⟩
    case round =>
      obtain ⟨rfl, rfl⟩ := hrel
      have c1 : w3.cell? ⟨g, 1, none⟩ = some (.slice yo L yc) := hs.rcell (List.mem_cons_self ..) rfl
      have c5 : w3.cell? ⟨g, 5, none⟩ = some (.int .i64 4) := hs.rcell (List.mem_cons_self ..) rfl
      by_cases hz0 : 0 < L
      · have f1 : decide ((0 : Int) < (L : Int)) = true := decide_eq_true (by omega)
        have f2 : decide (0 < L) = true := decide_eq_true hz0
        have hfz := pfail_any w0 w3 _ _ g vb (.slice yo L yc) base _ _ 4 3 hs
        rw [if_neg hA] at hfz
        have HFZ := Mx.hid hfz
        clear hfz hz0
        go_wp2_with (first | ((with_reducible show wpList _ _ _ _ _ _); refine wpl_want rfl ?_) | (go_at_call 42; refine HFZ.out.mono ?_; rintro e w9 ⟨rfl, hs9⟩))
        go_end0
        exact HP.out _ _ hs9
      · have f1 : decide ((0 : Int) < (L : Int)) = false := decide_eq_false (by omega)
        have f2 : decide (0 < L) = false := decide_eq_false hz0
        clear hz0
        go_wp2_with (first | ((with_reducible show wpList _ _ _ _ _ _); refine wpl_want rfl ?_))
        go_end0
        exact HP.out _ _ hs
end Go.Proofs.YtlfdnlomlbbicaaDoor

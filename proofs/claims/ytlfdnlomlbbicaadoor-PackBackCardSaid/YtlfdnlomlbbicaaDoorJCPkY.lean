/- The walks of pack.read, Parse, Index. The walks of pack.Parse and Index. marref.Lists over equal lists. -/
import Derived.Test.YtlfdnlomlbbicaaDoorPkV
import Derived.Test.YtlfdnlomlbbicaaDoorJ3Base
namespace Go.Proofs.YtlfdnlomlbbicaaDoor
open Go.RowKit Go.Mx
def PkrPost (w0 : World) (base : Value) (X : Int × List (List UInt8 × Nat) × List Nat) (e : Ending) (w' : World) : Prop :=
  ∃ g vb vr vo vw us, e = .returned (.pointer (some ⟨g, 0, none⟩)) ∧ us.length = X.2.1.length ∧ X.2.2.length = X.2.1.length ∧ X.2.1.length ≤ 512 ∧
    St w0 w' [prd g vb vr base vo vw X.1, orow vo X.2.1.length us, wrow vw X.2.1.length (rws X.2.1 X.2.2)] (rds us (X.2.1.map Prod.fst))
theorem PkrPost.nil {w0 w' : World} {g : Nat} {vb vr base : Value} {X : Int × List (List UInt8 × Nat) × List Nat} (A : Int) (hX : X = (A, [], [])) (h : St w0 w' [prd g vb vr base (.slice none 0 0) (.slice none 0 0) A] []) : PkrPost w0 base X (.returned (.pointer (some ⟨g, 0, none⟩))) w' := by
  subst hX
  exact ⟨g, vb, vr, .slice none 0 0, .slice none 0 0, [], rfl, rfl, rfl, by simp, ((h.addNil 25 1).addNil 38 3).perm (List.reverse_perm [_, _, _]).symm⟩
set_option maxRecDepth 100000 in
set_option maxHeartbeats 4000000 in
theorem pread_any (w : World) (v : Value) (b : List UInt8) (fb : FuncId) (caps : Array Value) (f : ByteArray → Option (List UInt8)) (hv : Sl w 1 v b.length (bs b)) (hb : b.length ≤ 140737488351232)
    (hB : BaseOk fb caps f w) (hbz : ∀ id x, f id = some x → x.length ≤ 1000000000) (hL : Laid w) :
    Calls Tryd.prog 18 #[v, .func (.func fb) #[] caps] w (PkrPost w (.func (.func fb) #[] caps) (rdPack f b)) := by
  obtain ⟨X, hX⟩ : ∃ X, rdPack f b = X := ⟨_, rfl⟩
  rw [hX]
  unfold rdPack at hX
  have HV := Mx.hid hv
  have HB := Mx.hid hB
  have HBZ := Mx.hid hbz
  obtain ⟨bo, bc, rfl, _⟩ := id hv
  have HALL := Mx.hid (fun (wx : World) (g : Nat) (y : Value) (body : List UInt8) hs hl hn h4 => pall_any w wx g y fb caps f body hs hl hn h4 hB hbz hL)
  by_cases hsh : b.length < 36
  · rw [if_pos hsh] at hX
    have d1 : decide ((b.length : Int) < 36) = true := decide_eq_true (by omega)
    have HX := Mx.hid hX.symm
    clear hv hB hbz hX hsh
    go_enter Tryd.func18, Tryd.ntmps18
    go_wp2_with (first | (((with_reducible show wpList _ _ _ _ _ _); refine wpl_box rfl 49 _ rfl (St.refl w) ([.slice none 0 0, .slice none 0 0, .func (.func fb) #[] caps, .slice none 0 0, .slice none 0 0, .int .i64 0]) (by rfl) ?_; intro gx wx hsx)) | ((with_reducible show wpList _ _ _ _ _ _); refine wpl_store1 rfl 26 _ _ rfl hsx (5) rfl (.int .i64 2) rfl rfl (by kernel_rfl) (by simp) rfl ?_; intro w2 hs2))
    go_ret
    exact PkrPost.nil 2 HX.out hs2
  · rw [if_neg hsh] at hX
    have d1 : decide ((b.length : Int) < 36) = false := decide_eq_false (by omega)
    obtain ⟨n, hn⟩ : ∃ n, b.length - 32 = n := ⟨_, rfl⟩
    rw [hn] at hX
    have hnI : (b.length : Int) - 32 = (n : Int) := by omega
    have hnl : n ≤ b.length := by omega
    have hn4 : 4 ≤ n := by omega
    obtain ⟨x, p1, q1⟩ := hv.cutRun Tryd.elU8 none (some (.int .i64 (n : Int))) 0 n (.inl ⟨rfl, rfl⟩) (.inr ⟨.i64, rfl⟩) (Nat.zero_le _) hnl
    obtain ⟨y, p2, q2⟩ := hv.cutRun Tryd.elU8 (some (.int .i64 (n : Int))) none n b.length (.inr ⟨.i64, rfl⟩) (.inl ⟨rfl, rfl⟩) hnl (Nat.le_refl _)
    have hx := Sl.cutB (q1 _ hv) hnl (Nat.zero_le _)
    have hy := Sl.cutB (q2 _ hv) (Nat.le_refl _) hnl
    rw [List.take_length] at hy
    rw [List.drop_zero] at hx
    have htl : (b.take n).length = n := by rw [List.length_take]; omega
    obtain ⟨xo, xc, rfl, _⟩ := id hx
    obtain ⟨yo, yc, rfl, _⟩ := id hy
    have HX2 := Mx.hid hx
    have HY2 := Mx.hid hy
    have hd32 : (b.drop n).length = 32 := by rw [List.length_drop]; omega
    generalize hbody : b.take n = body at *
    generalize b.drop n = tl at *
    rw [htl] at p1
    rw [hd32] at p2
    have HEQ := Mx.hid (show (Value.slice xo body.length xc) = .slice xo n xc ∧ (Value.slice yo tl.length yc) = .slice yo 32 yc by rw [htl, hd32]; exact ⟨rfl, rfl⟩)
    rw [HEQ.out.1] at HX2
    rw [HEQ.out.2] at HY2
    have hbl : body.length ≤ 140737488351232 := by omega
    have HSL := sha_len body
    clear hv hB hbz hsh q1 q2 hx hy hn hd32
    go_enter Tryd.func18, Tryd.ntmps18
    go_wp2_with (first | (((with_reducible show wpList _ _ _ _ _ _); refine wpl_box rfl 49 _ rfl (St.refl w) ([.slice none 0 0, .slice none 0 0, .func (.func fb) #[] caps, .slice none 0 0, .slice none 0 0, .int .i64 0]) (by rfl) ?_; intro gx wx hsx)) | (((with_reducible show wpList _ _ _ _ _ _); refine wpl_store1 rfl 25 _ _ rfl hsx (0) rfl (.slice xo n xc) rfl rfl (by kernel_rfl) (by simp) rfl ?_; intro w2 hs2); have c0 : w2.cell? ⟨gx, 0, none⟩ = some (.slice xo n xc) := hs2.rcell (List.mem_cons_self ..) rfl) | ((with_reducible show wpList _ _ _ _ _ _); refine wpl_store1 rfl 25 _ _ rfl hs2 (1) rfl (.slice xo n xc) rfl rfl (by kernel_rfl) (by simp) rfl ?_; intro w3 hs3))
    have hs4 : St w w3 [prd gx (.slice xo n xc) (.slice xo n xc) (.func (.func fb) #[] caps) (.slice none 0 0) (.slice none 0 0) 0] [] := hs3
    have HS4 := Mx.hid hs4
    clear hs3 hs2 hsx c0 hs4
    (refine wp_region_S (13) (fun W' => W'.cell? ⟨gx, 0, none⟩ = some (.slice xo n xc)) (by kernel_rfl) ?_ (fun hHeld => ?_); (focus ((try dsimp only); exact HS4.out.drew.rcell (List.mem_cons_self ..) rfl)))
    (refine wpAnyS_takeW (i := 0) (v := ?_) rfl (by kernel_rfl) (by kernel_rfl) (by kernel_rfl) (by kernel_rfl) (fun _ _ _ h => h) (Or.inl ⟨by first | rfl | (go_simp; done), ?_⟩) hHeld ?_; rotate_left 1; (focus (intro w' hSw; go_simp; (try with_reducible rfl))); (try simp only [Act.put, List.setIfInBounds_toArray, List.set_cons_zero, List.set_cons_succ]))
    (refine wpAnyS_takeW (i := 1) (v := ?_) rfl (by kernel_rfl) (by kernel_rfl) (by kernel_rfl) (by kernel_rfl) (fun _ _ _ h => h) (Or.inl ⟨by first | rfl | (go_simp; done), ?_⟩) hHeld ?_; rotate_left 1; (focus (intro w' hSw; go_simp; (try with_reducible rfl))); (try simp only [Act.put, List.setIfInBounds_toArray, List.set_cons_zero, List.set_cons_succ]))
    (refine wpAnyS_takeW (i := 2) (v := ?_) rfl (by kernel_rfl) (by kernel_rfl) (by kernel_rfl) (by kernel_rfl) (fun _ _ _ h => h) (Or.inl ⟨by first | rfl | (go_simp; done), ?_⟩) hHeld ?_; rotate_left 1; (focus (intro w' hSw; go_simp; (try with_reducible rfl))); (try simp only [Act.put, List.setIfInBounds_toArray, List.set_cons_zero, List.set_cons_succ]))
    (refine wpAnyS_takeD (i := 3) (v := ?_) rfl (by kernel_rfl) (by kernel_rfl) (by kernel_rfl) (by kernel_rfl) (by kernel_rfl) (fun _ _ _ h => h) (Or.inl ⟨by first | rfl | (go_simp; done), ?_⟩) hHeld ?_; rotate_left 1; (focus (intro w' hSw; (try dsimp only at hSw); go_simp; (try with_reducible rfl))); (try simp only [Act.put, List.setIfInBounds_toArray, List.set_cons_zero, List.set_cons_succ]))
    (refine wpAnyS_takeW (i := 5) (v := ?_) rfl (by kernel_rfl) (by kernel_rfl) (by kernel_rfl) (by kernel_rfl) (fun _ _ _ h => h) (Or.inl ⟨by first | rfl | (go_simp; done), ?_⟩) hHeld ?_; rotate_left 1; (focus (intro w' hSw; go_simp; (try with_reducible rfl))); (try simp only [Act.put, List.setIfInBounds_toArray, List.set_cons_zero, List.set_cons_succ]))
    (refine wpAnyS_takeW (i := 6) (v := ?_) rfl (by kernel_rfl) (by kernel_rfl) (by kernel_rfl) (by kernel_rfl) (fun _ _ _ h => h) (Or.inl ⟨by first | rfl | (go_simp; done), ?_⟩) hHeld ?_; rotate_left 1; (focus (intro w' hSw; go_simp; (try with_reducible rfl))); (try simp only [Act.put, List.setIfInBounds_toArray, List.set_cons_zero, List.set_cons_succ]))
    (refine wpAnyS_takeW (i := 7) (v := ?_) rfl (by kernel_rfl) (by kernel_rfl) (by kernel_rfl) (by kernel_rfl) (fun _ _ _ h => h) (Or.inl ⟨by first | rfl | (go_simp; done), ?_⟩) hHeld ?_; rotate_left 1; (focus (intro w' hSw; go_simp; (try with_reducible rfl))); (try simp only [Act.put, List.setIfInBounds_toArray, List.set_cons_zero, List.set_cons_succ]))
    (refine wpAnyS_takeW (i := 8) (v := ?_) rfl (by kernel_rfl) (by kernel_rfl) (by kernel_rfl) (by kernel_rfl) (fun _ _ _ h => h) (Or.inl ⟨by first | rfl | (go_simp; done), ?_⟩) hHeld ?_; rotate_left 1; (focus (intro w' hSw; go_simp; (try with_reducible rfl))); (try simp only [Act.put, List.setIfInBounds_toArray, List.set_cons_zero, List.set_cons_succ]))
    (refine wpAnyS_takeD (i := 9) (v := ?_) rfl (by kernel_rfl) (by kernel_rfl) (by kernel_rfl) (by kernel_rfl) (by kernel_rfl) (fun _ _ _ h => h) (Or.inl ⟨by first | rfl | (go_simp; done), ?_⟩) hHeld ?_; rotate_left 1; (focus (intro w' hSw; (try dsimp only at hSw); go_simp; (try with_reducible rfl))); (try simp only [Act.put, List.setIfInBounds_toArray, List.set_cons_zero, List.set_cons_succ]))
    (refine wpAnyS_takeW (i := 10) (v := ?_) rfl (by kernel_rfl) (by kernel_rfl) (by kernel_rfl) (by kernel_rfl) (fun _ _ _ h => h) (Or.inl ⟨by first | rfl | (go_simp; done), ?_⟩) hHeld ?_; rotate_left 1; (focus (intro w' hSw; go_simp; (try with_reducible rfl))); (try simp only [Act.put, List.setIfInBounds_toArray, List.set_cons_zero, List.set_cons_succ]))
    (refine wpAnyS_takeW (i := 11) (v := ?_) rfl (by kernel_rfl) (by kernel_rfl) (by kernel_rfl) (by kernel_rfl) (fun _ _ _ h => h) (Or.inl ⟨by first | rfl | (go_simp; done), ?_⟩) hHeld ?_; rotate_left 1; (focus (intro w' hSw; go_simp; (try with_reducible rfl))); (try simp only [Act.put, List.setIfInBounds_toArray, List.set_cons_zero, List.set_cons_succ]))
    (refine wpAnyS_ready (rs := [4]) (by kernel_rfl) (by simp) ?_; refine AllS.consL rfl (fun K hK => ?_) AllS.nil)
    (go_simp; go_at_call 17; refine (sum_any _ _ body (HS4.out.drew.old HX2.out) hbl (fun w' h => hL.keep (HS4.out.drew.call0 h))).mono ?_; rintro e w' ⟨sv, rfl, hk⟩; go_wp2_with fail)
    have hs5 := HS4.out.drew.call0 hk.bare
    have hsum : Sl w' 1 sv (sha body).length (bs (sha body)) := by rw [HSL]; exact hk.sl0
    have HSUM := Mx.hid hsum
    (refine hK.out _ _ ?_ (fun hHeld => ?_); (focus ((try dsimp only); exact hs5.rcell (List.mem_cons_self ..) rfl)); clear hK K; (try simp only [Act.put, List.setIfInBounds_toArray, List.set_cons_zero, List.set_cons_succ]))
    (refine wpAnyS_ready (rs := [12]) (by kernel_rfl) (by simp) ?_; refine AllS.consL rfl (fun K hK => ?_) AllS.nil)
    (go_simp; go_at_call 29; refine (bequal_any _ _ (sha body) tl _ HSUM.out (hs5.old HY2.out)).mono ?_; rintro e w' ⟨rfl, rfl⟩; go_wp2_with fail)
    (refine hK.out _ _ ?_ (fun hHeld => ?_); (focus ((try dsimp only); exact hs5.rcell (List.mem_cons_self ..) rfl)); clear hK K; (try simp only [Act.put, List.setIfInBounds_toArray, List.set_cons_zero, List.set_cons_succ]))
    (refine wpAnyS_seq (by rfl) (by kernel_rfl) ?_; simp only [List.drop_succ_cons, List.drop_zero])
    rename_i we
    clear hk
    have HS5 := Mx.hid hs5
    by_cases heq : sha body = tl
    · rw [decide_eq_true heq]
      rw [if_neg (by simpa using heq)] at hX
      clear heq
      have HX := Mx.hid hX
      clear hX
      go_wp2_with fail
      refine (HALL.out _ gx (.slice xo n xc) body hs5 (by rw [htl]; rw [htl] at HX2; exact HX2.out) (by omega) (by omega)).mono ?_
      unfold AllPost
      rintro e w8 ⟨rfl, vr, vo, vw, us, h1, h2, h3, hs8⟩
      rw [HX.out] at *
      go_wp2_with fail
      go_ret
      exact ⟨gx, _, vr, vo, vw, us, rfl, h1, h2, h3, hs8⟩
    · rw [decide_eq_false heq]
      rw [if_pos heq] at hX
      have HX := Mx.hid hX.symm
      clear hX heq
      go_wp2_with (((with_reducible show wpList _ _ _ _ _ _); refine wpl_store1 rfl 26 _ _ rfl hs5 (5) rfl (.int .i64 5) rfl rfl (by kernel_rfl) (by simp) rfl ?_; intro w8 hs8))
      go_ret
      exact PkrPost.nil 5 HX.out hs8
end Go.Proofs.YtlfdnlomlbbicaaDoor

namespace Go.Proofs.YtlfdnlomlbbicaaDoor
open Go.RowKit Go.Mx
def ParsePost (w0 : World) (X : Int × List (List UInt8 × Nat) × List Nat) (e : Ending) (w' : World) : Prop :=
  ∃ v, e = .returned (.tuple #[v, .int .i64 (X.2.1.length : Int), .int .i64 X.1]) ∧ St w0 w' [] [] ∧ LL w' v (if X.1 = 0 then X.2.1.map Prod.fst else [])
def IndexPost (w0 : World) (X : Int × List (List UInt8 × Nat) × List Nat) (e : Ending) (w' : World) : Prop :=
  (X.1 = 0 ∧ X.2.2.length = X.2.1.length ∧ ∃ v, e = .returned (.tuple #[v, .int .i64 0]) ∧ St w0 w' [wrow v X.2.1.length (rws X.2.1 X.2.2)] []) ∨
  (X.1 ≠ 0 ∧ e = .returned (.tuple #[.slice none 0 0, .int .i64 X.1]) ∧ St w0 w' [] [])
set_option maxRecDepth 100000 in
theorem pparse_any (w : World) (v : Value) (b : List UInt8) (fb : FuncId) (caps : Array Value) (f : ByteArray → Option (List UInt8)) (hv : Sl w 1 v b.length (bs b)) (hb : b.length ≤ 140737488351232)
    (hB : BaseOk fb caps f w) (hbz : ∀ id x, f id = some x → x.length ≤ 1000000000) (hL : Laid w) :
    Calls Tryd.prog 8 #[v, .func (.func fb) #[] caps] w (ParsePost w (rdPack f b)) := by
  have HR := Mx.hid (pread_any w v b fb caps f hv hb hB hbz hL)
  clear hv hB hbz
  generalize rdPack f b = X at *
  obtain ⟨er, pre, pl⟩ := X
  go_enter Tryd.func8, Tryd.ntmps8
  go_wp2_with fail
  refine HR.out.mono ?_
  unfold PkrPost
  rintro e w1 ⟨g, vb, vr, vo, vw, us, rfl, h1, h2, h3, hs⟩
  simp only at h1 h2 h3 hs
  have HS := Mx.hid hs
  obtain ⟨oo, oc, rfl, _⟩ := id hs.sl1
  have c5 : w1.cell? ⟨g, 5, none⟩ = some (.int .i64 er) := hs.rcell (List.mem_cons_self ..) rfl
  have hll := hs.addNil 5 1
  have HUS := Mx.hid h1
  clear hll hs HR h1 h2
  by_cases hA : er = 0
  · have he' : (er != 0) = false := by simpa using hA
    have HA := Mx.hid hA
    clear hA
    go_wp2_with fail
    refine wp_region_C (fun W' => St w W' [prd g vb vr (.func (.func fb) #[] caps) (.slice oo pre.length oc) vw er, orow (.slice oo pre.length oc) pre.length us, wrow vw pre.length (rws pre pl)] (rds us (pre.map Prod.fst))) (by kernel_rfl) (by kernel_rfl) (by exact HS.out.drew) ?_
    repeat ((first | (refine cq_y0 (v := ?_) (by with_reducible rfl) ?_ ?_; rotate_left 1; (focus (intro wq hq; (try dsimp only at hq); (have d0 : wq.cell? ⟨g, 3, none⟩ = some (.slice oo pre.length oc) := hq.rcell (List.mem_cons_self ..) rfl; have d1 : wq.cell? ⟨g, 5, none⟩ = some (.int .i64 er) := hq.rcell (List.mem_cons_self ..) rfl); go_simp; (first | done | with_reducible rfl | fail)))) | (refine cq_no (by go_simp; first | done | (intro h9; cases h9)) ?_) | (refine cq_yes (v := ?_) (by go_simp) ?_ ?_; rotate_left 1; (focus (intro wq hq; (try dsimp only at hq); (have d0 : wq.cell? ⟨g, 3, none⟩ = some (.slice oo pre.length oc) := hq.rcell (List.mem_cons_self ..) rfl; have d1 : wq.cell? ⟨g, 5, none⟩ = some (.int .i64 er) := hq.rcell (List.mem_cons_self ..) rfl); go_simp; (first | done | with_reducible rfl | fail))))); (try simp only [Act.put, List.setIfInBounds_toArray, List.set_cons_zero, List.set_cons_succ]))
    refine cq_nil ?_
    intro wq hq
    (try dsimp only at hq)
    go_wp2_with fail
    go_ret3
    have hA := HA.out
    subst hA
    exact ⟨_, rfl, hq.bare, by
      rw [if_pos rfl]
      exact ⟨us, by rw [List.length_map, HUS.out], by rw [List.length_map]; exact hq.sl1, fun q hq' => hq.rd q hq'⟩⟩
  · have he' : (er != 0) = true := by simpa using hA
    have HA := Mx.hid hA
    clear hA
    go_wp2_with fail
    refine wp_region_C (fun W' => St w W' [prd g vb vr (.func (.func fb) #[] caps) (.slice oo pre.length oc) vw er, orow (.slice oo pre.length oc) pre.length us, wrow vw pre.length (rws pre pl)] (rds us (pre.map Prod.fst))) (by kernel_rfl) (by kernel_rfl) (by exact HS.out.drew) ?_
    repeat ((first | (refine cq_y0 (v := ?_) (by with_reducible rfl) ?_ ?_; rotate_left 1; (focus (intro wq hq; (try dsimp only at hq); (have d0 : wq.cell? ⟨g, 3, none⟩ = some (.slice oo pre.length oc) := hq.rcell (List.mem_cons_self ..) rfl; have d1 : wq.cell? ⟨g, 5, none⟩ = some (.int .i64 er) := hq.rcell (List.mem_cons_self ..) rfl); go_simp; (first | done | with_reducible rfl | fail)))) | (refine cq_no (by go_simp; first | done | (intro h9; cases h9)) ?_) | (refine cq_yes (v := ?_) (by go_simp) ?_ ?_; rotate_left 1; (focus (intro wq hq; (try dsimp only at hq); (have d0 : wq.cell? ⟨g, 3, none⟩ = some (.slice oo pre.length oc) := hq.rcell (List.mem_cons_self ..) rfl; have d1 : wq.cell? ⟨g, 5, none⟩ = some (.int .i64 er) := hq.rcell (List.mem_cons_self ..) rfl); go_simp; (first | done | with_reducible rfl | fail))))); (try simp only [Act.put, List.setIfInBounds_toArray, List.set_cons_zero, List.set_cons_succ]))
    refine cq_nil ?_
    intro wq hq
    (try dsimp only at hq)
    go_wp2_with fail
    go_ret3
    exact ⟨_, rfl, hq.bare, by rw [if_neg HA.out]; exact LL.nil _⟩
set_option maxRecDepth 100000 in
theorem pindex_any (w : World) (v : Value) (b : List UInt8) (fb : FuncId) (caps : Array Value) (f : ByteArray → Option (List UInt8)) (hv : Sl w 1 v b.length (bs b)) (hb : b.length ≤ 140737488351232)
    (hB : BaseOk fb caps f w) (hbz : ∀ id x, f id = some x → x.length ≤ 1000000000) (hL : Laid w) :
    Calls Tryd.prog 10 #[v, .func (.func fb) #[] caps] w (IndexPost w (rdPack f b)) := by
  have HR := Mx.hid (pread_any w v b fb caps f hv hb hB hbz hL)
  clear hv hB hbz
  generalize rdPack f b = X at *
  obtain ⟨er, pre, pl⟩ := X
  go_enter Tryd.func10, Tryd.ntmps10
  go_wp2_with fail
  refine HR.out.mono ?_
  unfold PkrPost
  rintro e w1 ⟨g, vb, vr, vo, vw, us, rfl, h1, h2, h3, hs⟩
  simp only at h1 h2 h3 hs
  have HS := Mx.hid hs
  have HPL := Mx.hid h2
  have c5 : w1.cell? ⟨g, 5, none⟩ = some (.int .i64 er) := hs.rcell (List.mem_cons_self ..) rfl
  have c4 : w1.cell? ⟨g, 4, none⟩ = some vw := hs.rcell (List.mem_cons_self ..) rfl
  clear hs HR h1 h2
  by_cases hA : er = 0
  · have he' : (er != 0) = false := by simpa using hA
    have HA := Mx.hid hA
    clear hA
    go_wp2_with fail
    go_ret2
    refine .inl ⟨HA.out, HPL.out, vw, rfl, ?_⟩
    exact (HS.out.perm (List.reverse_perm _).symm).sub (List.Sublist.cons_cons _ (List.nil_sublist _)) (by simp)
  · have he' : (er != 0) = true := by simpa using hA
    have HA := Mx.hid hA
    clear hA
    go_wp2_with fail
    refine wp_region_C (fun W' => St w W' [prd g vb vr (.func (.func fb) #[] caps) vo vw er, orow vo pre.length us, wrow vw pre.length (rws pre pl)] (rds us (pre.map Prod.fst))) (by kernel_rfl) (by kernel_rfl) (by exact HS.out.drew) ?_
    repeat ((first | (refine cq_y0 (v := ?_) (by with_reducible rfl) ?_ ?_; rotate_left 1; (focus (intro wq hq; (try dsimp only at hq); (have d1 : wq.cell? ⟨g, 5, none⟩ = some (.int .i64 er) := hq.rcell (List.mem_cons_self ..) rfl); go_simp; (first | done | with_reducible rfl | fail)))) | (refine cq_no (by go_simp; first | done | (intro h9; cases h9)) ?_) | (refine cq_yes (v := ?_) (by go_simp) ?_ ?_; rotate_left 1; (focus (intro wq hq; (try dsimp only at hq); (have d1 : wq.cell? ⟨g, 5, none⟩ = some (.int .i64 er) := hq.rcell (List.mem_cons_self ..) rfl); go_simp; (first | done | with_reducible rfl | fail))))); (try simp only [Act.put, List.setIfInBounds_toArray, List.set_cons_zero, List.set_cons_succ]))
    refine cq_nil ?_
    intro wq hq
    (try dsimp only at hq)
    go_wp2_with fail
    go_ret2
    exact .inr ⟨HA.out, rfl, hq.bare⟩
end Go.Proofs.YtlfdnlomlbbicaaDoor

namespace Go.Proofs.YtlfdnlomlbbicaaDoor
open Go.RowKit Go.Mx
theorem lists_same (v v' : Value) (ls : List (List UInt8)) (w : World) (hv : LL w v ls) (hv' : LL w v' ls) :
    Calls Tryd.prog 11 #[v, v'] w fun e w' => e = .returned (.bool true) ∧ St w w' [] [] := by
  obtain ⟨ao, cap, blk, off, us, rfl, h1, h2, hc, hd⟩ := hv.at
  obtain ⟨ao', cap', blk', off', us', rfl, h1', h2', hc', hd'⟩ := hv'.at
  clear hv hv'
  have HC := Mx.hid hc
  have HC' := Mx.hid hc'
  have HD := Mx.hid hd
  have HD' := Mx.hid hd'
  clear hc hc' hd hd'
  have hb : ((ls.length : Int) != (ls.length : Int)) = false := by simp
  go_enter Tryd.func11, Tryd.ntmps11
  go_wp2_with fail
  go_loopw [5] (fun x wr => ∃ i : Nat, i ≤ ls.length ∧ x = .int .i64 i ∧ St w wr [] []) (fun x _ => ls.length - (intOf x).toNat)
  case atStart => exact ⟨0, by omega, rfl, St.refl w⟩
  case round =>
    obtain ⟨i, hi, rfl, hs⟩ := hrel
    by_cases hlt : i < ls.length
    · obtain ⟨rfl, c1⟩ := HC.out i hlt
      obtain ⟨rfl, c2⟩ := HC'.out i hlt
      have c1 := hs.keep c1
      have c2 := hs.keep c2
      have d1 := hs.old (HD.out i hlt)
      have d2 := hs.old (HD'.out i hlt)
      have hii : (i : Int) < (ls.length : Int) := by omega
      obtain ⟨z1, y1, e1, _⟩ := d1
      have d1 := hs.old (HD.out i hlt)
      obtain ⟨z2, y2, e2, _⟩ := d2
      have d2 := hs.old (HD'.out i hlt)
      rw [e1] at c1 d1
      rw [e2] at c2 d2
      clear e1 e2
      have hX : ∀ w', St wr w' [] [] → Calls Tryd.prog 19 #[.slice z1 ls[i].length y1, .slice z2 ls[i].length y2] w' fun e w'' => e = .returned (.bool true) ∧ w'' = w' := fun w' h =>
        (bytes_any _ _ ls[i] ls[i] w' (h.old d1) (h.old d2)).mono fun e w'' g => by rw [decide_eq_true (rfl : ls[i] = ls[i])] at g; exact ⟨g.1, g.2.symm⟩
      have HX := Mx.hid hX
      clear hX
      go_wp2_with fail
      go_quiet ((go_at_call 19; exact Calls.quiet_of_same (HX.out _ ((St.refl wr).drewN _))))
      go_wp2_with fail
      go_roundw
      case rel => exact ⟨i + 1, by omega, by go_num, hs.drewN _⟩
      case measure => simp [intOf]; omega
    · go_wp2_with fail
      go_ret
      exact ⟨rfl, hs⟩

end Go.Proofs.YtlfdnlomlbbicaaDoor

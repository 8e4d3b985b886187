/- The walk of Make's closure. -/
import Derived.Test.YtlfdnlomlbbicaaDoorJ9DelU
import Derived.Test.YtlfdnlomlbbicaaDoorHeld
namespace Go.Proofs.YtlfdnlomlbbicaaDoor
open Go.RowKit Go.Mx

/-- A variable of the call's own that holds a slice of bytes. -/
abbrev cel (g : Nat) (v : Value) : Row := ⟨.slice (some ⟨g, 0, none⟩) 1 1, 25, 1, 1, [v]⟩
abbrev dbyr (v : Value) (l : List UInt8) : Row := ⟨v, 5, 1, l.length, bs l⟩

def FlPost (w0 : World) (gd gf : Nat) (O : List UInt8) (e : Ending) (w' : World) : Prop :=
  ∃ v, e = .returned (.tuple #[]) ∧ St w0 w' [dbyr v O, cel gd v, cel gf (.slice none 0 0)] []

set_option maxHeartbeats 4000000 in
theorem flush_any (w0 w : World) (gd gf : Nat) (vd vf : Value) (O I : List UInt8) (hs : St w0 w [dbyr vd O, cel gd vd, cel gf vf, dbyr vf I] []) (hO : O.length ≤ 200000) (hI : I.length ≤ 20000) :
    Calls Tryd.prog 24 #[.pointer (some ⟨gf, 0, none⟩), .pointer (some ⟨gd, 0, none⟩)] w (FlPost w0 gd gf (O ++ flR I)) := by
  have c0 : w.cell? ⟨gd, 0, none⟩ = some vd := hs.rcell (List.mem_cons_of_mem _ (List.mem_cons_self ..)) rfl
  have c1 : w.cell? ⟨gf, 0, none⟩ = some vf := hs.rcell (List.mem_cons_of_mem _ (List.mem_cons_of_mem _ (List.mem_cons_self ..))) rfl
  obtain ⟨oo, oc, rfl, _⟩ := id hs.sl0
  have hsf : Sl w 1 vf I.length (bs I) := hs.sl (r := dbyr vf I) (by simp)
  obtain ⟨io, ic, rfl, _⟩ := hsf
  by_cases hne : I = []
  · subst hne
    change w.cell? ⟨gf, 0, none⟩ = some (.slice io 0 ic) at c1
    have hs1 : St w0 w [cel gf (.slice io 0 ic), dbyr (.slice oo O.length oc) O, cel gd (.slice oo O.length oc)] [] :=
      (hs.sub (R' := [dbyr (.slice oo O.length oc) O, cel gd (.slice oo O.length oc), cel gf (.slice io 0 ic)]) (by simp) (fun _ h => h)).perm (List.perm_append_comm (l₁ := [_, _]) (l₂ := [_]))
    go_enter Tryd.func24, Tryd.ntmps24
    go_wp2_with ((with_reducible show wpList _ _ _ _ _ _); refine wpl_store1 rfl 25 _ _ rfl hs1 (0) rfl (.slice none 0 0) rfl rfl (by kernel_rfl) (by simp) rfl ?_; intro w1 hs2)
    go_end0
    unfold FlPost
    rw [flR_nil, List.append_nil]
    exact ⟨_, rfl, hs2.perm (List.perm_append_comm (l₁ := [_]) (l₂ := [_, _]))⟩
  · have hpos : 0 < I.length := List.length_pos_iff.2 hne
    have hpos' : (0 : Int) < (I.length : Int) := by omega
    have HNE := Mx.hid hne
    clear hne
    go_enter Tryd.func24, Tryd.ntmps24
    go_wp2_with fail
    (refine wp_region_S (8) (fun W' => W'.cell? ⟨gd, 0, none⟩ = some (.slice oo O.length oc) ∧ W'.cell? ⟨gf, 0, none⟩ = some (.slice io I.length ic)) (by kernel_rfl) ?_ (fun hHeld => ?_); (focus ((try dsimp only); go_keep)))
    (refine wpAnyS_takeL (i := 0) (v := ?_) rfl (by kernel_rfl) (by kernel_rfl) (by kernel_rfl) (by kernel_rfl) (by kernel_rfl) (by kernel_rfl) (fun _ _ _ h => h) (Or.inl ⟨by rfl, ?_⟩) hHeld ?_; rotate_left 1; (focus (intro w' hSw; (try dsimp only at hSw); go_simp; (try with_reducible rfl))); (try simp only [Act.put, List.setIfInBounds_toArray, List.set_cons_zero, List.set_cons_succ]))
    (refine wpAnyS_takeL (i := 3) (v := ?_) rfl (by kernel_rfl) (by kernel_rfl) (by kernel_rfl) (by kernel_rfl) (by kernel_rfl) (by kernel_rfl) (fun _ _ _ h => h) (Or.inl ⟨by rfl, ?_⟩) hHeld ?_; rotate_left 1; (focus (intro w' hSw; (try dsimp only at hSw); go_simp; (try with_reducible rfl))); (try simp only [Act.put, List.setIfInBounds_toArray, List.set_cons_zero, List.set_cons_succ]))
    (refine wpAnyS_takeL (i := 6) (v := ?_) rfl (by kernel_rfl) (by kernel_rfl) (by kernel_rfl) (by kernel_rfl) (by kernel_rfl) (by kernel_rfl) (fun _ _ _ h => h) (Or.inl ⟨by rfl, ?_⟩) hHeld ?_; rotate_left 1; (focus (intro w' hSw; (try dsimp only at hSw); go_simp; (try with_reducible rfl))); (try simp only [Act.put, List.setIfInBounds_toArray, List.set_cons_zero, List.set_cons_succ]))
    (refine wpAnyS_takeL (i := 4) (v := ?_) rfl (by kernel_rfl) (by kernel_rfl) (by kernel_rfl) (by kernel_rfl) (by kernel_rfl) (by kernel_rfl) (fun _ _ _ h => h) (Or.inl ⟨by rfl, ?_⟩) hHeld ?_; rotate_left 1; (focus (intro w' hSw; (try dsimp only at hSw); go_simp; (try with_reducible rfl))); (try simp only [Act.put, List.setIfInBounds_toArray, List.set_cons_zero, List.set_cons_succ]))
    have hs0 := hs.drew.alloc (.cells #[.int .u8 2] 5)
    (refine wpAnyS_ready (rs := [1]) (by kernel_rfl) (by simp) ?_; refine AllS.consL rfl (fun K hK => ?_) AllS.nil)
    go_simp
    (refine hK.out _ _ ?_ (fun hHeld => ?_); (focus ((try dsimp only); exact ⟨hs0.rcell (List.mem_cons_of_mem _ (List.mem_cons_self ..)) rfl, hs0.rcell (List.mem_cons_of_mem _ (List.mem_cons_of_mem _ (List.mem_cons_self ..))) rfl⟩)); clear hK K; (try simp only [Act.put, List.setIfInBounds_toArray, List.set_cons_zero, List.set_cons_succ]))
    (refine wpAnyS_ready (rs := [2]) (by kernel_rfl) (by simp) ?_; refine AllS.consL rfl (fun K hK => ?_) AllS.nil)
    (refine step_app rfl _ _ 25 rfl Tryd.elU8 (by exact hs0) rfl (by exact Sl.one _ _ _) (by intro u hu; simp at hu; subst hu; rfl) (by omega) ?_; intro v9 w9 hs9 _)
    obtain ⟨dd, dc, rfl, _⟩ := id hs9.sl0
    (refine hK.out _ _ ?_ (fun hHeld => ?_); (focus ((try dsimp only); exact ⟨hs9.rcell (List.mem_cons_of_mem _ (List.mem_cons_self ..)) rfl, hs9.rcell (List.mem_cons_of_mem _ (List.mem_cons_of_mem _ (List.mem_cons_self ..))) rfl⟩)); clear hK K; (try simp only [Act.put, List.setIfInBounds_toArray, List.set_cons_zero, List.set_cons_succ]))
    (refine wpAnyS_ready (rs := [5]) (by kernel_rfl) (by simp) ?_; refine AllS.consL rfl (fun K hK => ?_) AllS.nil)
    (go_simp; go_at_call 23; refine (number_app w0 w9 _ _ _ _ _ I.length hs9 (by omega) (by omega)).mono ?_; rintro e w' ⟨v10, rfl, hs10⟩; go_wp2_with fail)
    obtain ⟨ed, ec, rfl, _⟩ := id hs10.sl0
    (refine hK.out _ _ ?_ (fun hHeld => ?_); (focus ((try dsimp only); exact ⟨hs10.rcell (List.mem_cons_of_mem _ (List.mem_cons_self ..)) rfl, hs10.rcell (List.mem_cons_of_mem _ (List.mem_cons_of_mem _ (List.mem_cons_self ..))) rfl⟩)); clear hK K; (try simp only [Act.put, List.setIfInBounds_toArray, List.set_cons_zero, List.set_cons_succ]))
    have l6 := putL_small (n := I.length) (by omega)
    have hsrc : Sl _ 1 (.slice io I.length ic) I.length (bs I) := hs10.sl (r := dbyr (.slice io I.length ic) I) (by simp)
    generalize hl6 : (putL I.length).length = p6 at *
    (refine wpAnyS_ready (rs := [7]) (by kernel_rfl) (by simp) ?_; refine AllS.consL rfl (fun K hK => ?_) AllS.nil)
    (refine step_app rfl _ _ 25 rfl Tryd.elU8 (by exact hs10) rfl (by exact hsrc) (bs_one _) (by omega) ?_; intro v11 w11 hs11 _)
    obtain ⟨fd, fc, rfl, _⟩ := id hs11.sl0
    (refine hK.out _ _ ?_ (fun hHeld => ?_); (focus ((try dsimp only); exact ⟨hs11.rcell (List.mem_cons_of_mem _ (List.mem_cons_self ..)) rfl, hs11.rcell (List.mem_cons_of_mem _ (List.mem_cons_of_mem _ (List.mem_cons_self ..))) rfl⟩)); clear hK K; (try simp only [Act.put, List.setIfInBounds_toArray, List.set_cons_zero, List.set_cons_succ]))
    (refine wpAnyS_seq (by rfl) (by kernel_rfl) ?_; simp only [List.drop_succ_cons, List.drop_zero])
    have hs12 := hs11.swap
    go_wp2_with (first | ((with_reducible show wpList _ _ _ _ _ _); refine wpl_store1 rfl 25 _ _ rfl hs12 (0) rfl (.slice fd (O.length + 1 + p6 + I.length) fc) rfl rfl (by kernel_rfl) (by simp) rfl ?_; intro wA hsA); have hsB := hsA.perm (List.perm_append_comm (l₁ := [_, _]) (l₂ := [_, _])) | ((with_reducible show wpList _ _ _ _ _ _); refine wpl_store1 rfl 25 _ _ rfl hsB (0) rfl (.slice none 0 0) rfl rfl (by kernel_rfl) (by simp) rfl ?_; intro wC hsC))
    go_end0
    unfold FlPost
    have hsD : St w0 wC [cel gf (.slice none 0 0), dbyr (.slice io I.length ic) I, cel gd (.slice fd (O.length + 1 + p6 + I.length) fc), ⟨.slice fd (O.length + 1 + p6 + I.length) fc, 5, 1, O.length + 1 + p6 + I.length, bs O ++ [Value.int IntKind.u8 2] ++ bs (putL I.length) ++ bs I⟩] [] := hsC
    have hsE := (St.drop1 hsD).perm (List.reverse_perm _).symm
    exact ⟨_, rfl, hsE.cast (by rw [flR_ne HNE.out]; simp only [List.length_append, List.length_cons, hl6]; omega) (by rw [flR_ne HNE.out]; simp only [bs_app, bs_cons]; simp)⟩
end Go.Proofs.YtlfdnlomlbbicaaDoor

/- Walks of slices.IndexFunc, slices.DeleteFunc with dag's predicate, dag's nearest. -/
import Derived.Test.YtojbdlbcaoeffaaDagK
import Derived.Lib.SliceRun
namespace Go.Mx
open Go Go.RowKit
/-- clear(s[i:]), s the head row. -/
theorem wpl_clear {P : Program} {w0 w : World} {R : List Row} {Qs : List Rd} {ops : Array Oper} {rest : List Oper} {o : Oper} {a : Act} {Q : Exit → Act → World → Prop} (hgd : o.guard = none) (t : TypeId) (x : Operand)
    (ho : o.op = .call { callee := .builtin .clear, args := #[x], argTypes := #[t] }) {e : TypeId} {z : Value} (ht : P.underlying t = some (.slice e)) (hz : ∀ w, (zeroValue e).run P w = .ok z w) (hzc : z.cells = #[z]) (h1 : z.oneCell' = true)
    {g n cap : Nat} {xs : List Value} (hst : St w0 w (⟨.slice (some ⟨g, 0, none⟩) n cap, e, 1, n, xs⟩ :: R) Qs) (i c : Nat) (hi : i < n) (hx : a.eval x = .slice (some ⟨g, i, none⟩) (n - i) c)
    (h : ∀ w', St w0 w' (⟨.slice (some ⟨g, 0, none⟩) n cap, e, 1, n, xs.take i ++ List.replicate (n - i) z⟩ :: R) Qs → wpList P ops Q rest (a.put o.dst (.tuple #[])) w') : wpList P ops Q (o :: rest) a w := by
  refine wpList_plain hgd fun K hK => ?_
  have hxl : xs.length = n := by have := (hst.own _ (List.mem_cons_self ..)).1; simpa using this
  obtain ⟨w', hr, h2⟩ := hst.store (P := P) i (List.replicate (n - i) z) (by simp; omega) (by intro u hu; rw [List.eq_of_mem_replicate hu]; exact h1)
  have hzc2 : (Builtin.zeroCells z.cells (n - i)).toList = List.replicate (n - i) z := by
    rw [hzc]
    simp [Builtin.zeroCells]
    apply List.ext_getElem
    · simp
    · intro j h1 h2
      simp [Nat.mod_one]
  obtain ⟨m, hm⟩ : ∃ m, n - i = m + 1 := ⟨n - i - 1, by omega⟩
  unfold Oper.wp execOp
  simp only [ho, resolve, invoke, builtin, Sem.run_bind, Sem.run_pure, Result.andThen_ok, List.map_toArray, List.map_cons, List.map_nil, hx]
  rw [hm] at hzc2 hr ⊢
  simp [Builtin.clear_, run_underlying ht, hz, hzc2, hr]
  refine hK _ _ (h w' ?_)
  rw [hm]
  rw [show xs.drop (i + (List.replicate (n - i) z).length) = [] from List.drop_eq_nil_of_le (by simp; omega), List.append_nil, hm] at h2
  exact h2
theorem wpl_mrange {P : Program} {w : World} {ops : Array Oper} {rest : List Oper} {o : Oper} {a : Act} {Q : Exit → Act → World → Prop} (hgd : o.guard = none) (t : TypeId) (m : Operand) (ho : o.op = .range t m)
    {kt et : TypeId} (ht : P.underlying t = some (.map kt et)) {b : Nat} {l : List Ent} (hm : Mp w b l) (hme : a.eval m = .map (some b))
    (h : ∀ w', Rg w' w.heap.size b l l → Below w.heap.size w w' → w'.heap.size = w.heap.size + 1 → wpList P ops Q rest (a.put o.dst (.pointer (some ⟨w.heap.size, 0, none⟩))) w') : wpList P ops Q (o :: rest) a w := by
  refine wpList_plain hgd fun K hK => ?_
  obtain ⟨w', hr, h1, h2, h3⟩ := run_mrange (P := P) ht hm
  unfold Oper.wp execOp
  simp only [ho, hme, Sem.run_bind, hr, Result.andThen_ok, Sem.run_pure]
  exact hK _ _ (h w' h1 h2 h3)
theorem cell_grown {w w' : World} {b g j : Nat} {v : Value} (h : w.cell? ⟨g, j, none⟩ = some v) (hg : w.grownBy w' (some b)) (hne : g ≠ b) : w'.cell? ⟨g, j, none⟩ = some v := by
  rw [← h]
  have hlt : g < w.heap.size := World.block_lt_of_cell? w _ h
  exact World.cell?_of_block (hg.block g hlt (fun e => hne (Option.some.inj e)))
/-- What is left of a list without those. -/
def outL (K l : List ByteArray) : List ByteArray := l.filter fun x => !memB K x
def IdxPost (K l : List ByteArray) (w : World) (e : Ending) (w' : World) : Prop :=
  ((∃ i : Nat, e = .returned (.int .i64 (i : Int)) ∧ i < l.length ∧ outL K (l.take (i + 1)) = l.take i) ∨ (e = .returned (.int .i64 (-1)) ∧ outL K l = l)) ∧ w = w'
theorem outL_snoc (K : List ByteArray) {l : List ByteArray} {i : Nat} (h : i < l.length) : outL K (l.take (i + 1)) = outL K (l.take i) ++ if memB K l[i] = true then [] else [l[i]] := by
  unfold outL
  rw [List.take_succ_eq_append_getElem h, List.filter_append]
  congr 1
  cases hm : memB K l[i] <;> simp [hm]
theorem outL_len (K l : List ByteArray) : (outL K l).length ≤ l.length := List.length_filter_le _ _
theorem mem_outL {K l : List ByteArray} {x : ByteArray} : x ∈ outL K l ↔ x ∈ l ∧ x ∉ K := by
  unfold outL
  rw [List.mem_filter]
  refine and_congr_right fun _ => ?_
  rw [← memB_iff]
  simp
theorem drop_get {c l : List ByteArray} {j : Nat} (h : c.drop j = l.drop j) (hj : j < l.length) (hc : j < c.length) : c[j] = l[j] ∧ c.drop (j + 1) = l.drop (j + 1) := by
  rw [List.drop_eq_getElem_cons hj, List.drop_eq_getElem_cons hc] at h
  exact List.cons.inj h
theorem set_mid {c : List ByteArray} {i j : Nat} (x : ByteArray) (hi : i < c.length) (hij : i < j) : (c.take i ++ [x] ++ c.drop (i + 1)).length = c.length ∧ (c.take i ++ [x] ++ c.drop (i + 1)).take (i + 1) = c.take i ++ [x] ∧ (c.take i ++ [x] ++ c.drop (i + 1)).drop (j + 1) = c.drop (j + 1) := by
  have h1 : (c.take i ++ [x]).length = i + 1 := by simp; omega
  refine ⟨by simp; omega, ?_, ?_⟩
  · rw [← h1, List.take_left]
  · obtain ⟨m, hm⟩ : ∃ m, j + 1 = (c.take i ++ [x]).length + m := ⟨j - i, by omega⟩
    rw [hm, List.drop_length_add_append, List.drop_drop]
    congr 1
    omega
end Go.Mx
namespace Go.Proofs.Ytojbdlbcaoeffaa
open Go.RowKit Go.Mx

theorem nd1_any (p C : Nat) (K : List ByteArray) (x : ByteArray) (w : World) (hc : w.cell? ⟨p, 0, none⟩ = some (.map (some C))) (hm : Mp w C (met K)) :
    Calls Try.prog 45 #[.string x, .pointer (some ⟨p, 0, none⟩)] w fun e w' => e = .returned (.bool (memB K x)) ∧ w = w' := by
  cases hx : memB K x with
  | true =>
    have HG := Mx.hid (show mget (met K) x = some (.int .i64 1) by rw [mget_met, if_pos hx])
    clear hx
    go_enter Try.func45, Try.ntmps45
    go_wp2_with ((with_reducible show wpList _ _ _ _ _ _); refine wpl_look rfl 54 _ _ true rfl Try.underlying54 Try.underlying9 Try.zeroInt (by exact hm) rfl x rfl ?_; rw [HG.out])
    go_ret
    exact ⟨rfl, rfl⟩
  | false =>
    have HG := Mx.hid (show mget (met K) x = none by rw [mget_met, if_neg (by simp [hx])])
    clear hx
    go_enter Try.func45, Try.ntmps45
    go_wp2_with ((with_reducible show wpList _ _ _ _ _ _); refine wpl_look rfl 54 _ _ true rfl Try.underlying54 Try.underlying9 Try.zeroInt (by exact hm) rfl x rfl ?_; rw [HG.out])
    go_ret
    exact ⟨rfl, rfl⟩

theorem indexF_any (p C : Nat) (K : List ByteArray) (v : Value) (l : List ByteArray) (w : World) (hv : Sl w 1 v l.length (ss l)) (hc : w.cell? ⟨p, 0, none⟩ = some (.map (some C))) (hm : Mp w C (met K)) :
    Calls Try.prog 49 #[v, .func (Fn.func 45) #[] #[.pointer (some ⟨p, 0, none⟩)]] w (IdxPost K l w) := by
  obtain ⟨ao, cap, blk, off, rfl, h1, h2, _, hcc⟩ := hv.txt
  have HC := Mx.hid hcc
  have HN := Mx.hid (fun x => nd1_any p C K x w hc hm)
  clear hv hcc hc hm
  go_enter Try.func49, Try.ntmps49
  go_wp2_with fail
  go_loop [8] (fun x => ∃ i : Nat, i ≤ l.length ∧ x = .int .i64 i ∧ Hid (outL K (l.take i) = l.take i)) (fun x => l.length - (intOf x).toNat)
  case atStart => exact ⟨0, by omega, rfl, by simp [Hid, outL]⟩
  case round =>
    obtain ⟨i, hi, rfl, HI⟩ := hrel
    by_cases hlt : i < l.length
    · obtain ⟨rfl, c1⟩ := HC.out i hlt
      have HX := Mx.hid (HN.out l[i])
      have HO := Mx.hid (outL_snoc K hlt)
      have HT := Mx.hid (List.take_succ_eq_append_getElem hlt)
      cases hb : memB K l[i] with
      | true =>
        rw [hb] at HX
        have HF := Mx.hid (show outL K (l.take (i + 1)) = l.take i by rw [HO.out, hb, HI.out]; simp)
        clear hb HO
        generalize l[i] = x at *
        go_wp2_with (go_at_call 45; refine HX.out.mono ?_; rintro e w2 ⟨rfl, rfl⟩)
        go_ret
        exact ⟨.inl ⟨i, rfl, hlt, HF.out⟩, rfl⟩
      | false =>
        rw [hb] at HX
        have HF := Mx.hid (show outL K (l.take (i + 1)) = l.take (i + 1) by rw [HO.out, hb, HI.out, HT.out]; simp)
        clear hb HO
        generalize l[i] = x at *
        go_wp2_with (go_at_call 45; refine HX.out.mono ?_; rintro e w2 ⟨rfl, rfl⟩)
        go_round
        case rel => exact ⟨i + 1, by omega, by go_num, HF⟩
        case measure => simp [intOf]; omega
    · have HF := Mx.hid (show outL K l = l by have := HI.out; rwa [List.take_of_length_le (by omega)] at this)
      go_wp2_with fail
      go_ret
      exact ⟨.inr ⟨rfl, HF.out⟩, rfl⟩

set_option maxRecDepth 100000 in
set_option maxHeartbeats 1000000 in
theorem deleteF_any {w0 w : World} (p C : Nat) (K : List ByteArray) (v : Value) (l : List ByteArray) (hs : St w0 w [⟨v, 9, 1, l.length, ss l⟩] []) (hc : w0.cell? ⟨p, 0, none⟩ = some (.map (some C))) (hm : Mp w0 C (met K)) (hl : l.length ≤ 8000000000) :
    Calls Try.prog 44 #[v, .func (Fn.func 45) #[] #[.pointer (some ⟨p, 0, none⟩)]] w fun e w' => ∃ v', e = .returned v' ∧ St w0 w' [⟨v', 9, 1, (outL K l).length, ss (outL K l)⟩] [] := by
  have HX := Mx.hid (indexF_any p C K v l w hs.sl0 (hs.keep hc) (hm.grow hs.below))
  have HN := Mx.hid (fun x w' R (hs : St w0 w' R []) => nd1_any p C K x w' (hs.keep hc) (hm.grow hs.below))
  clear hc hm
  obtain ⟨va, vc, rfl, _⟩ := id hs.sl0
  go_enter Try.func44, Try.ntmps44
  go_wp2_with fail
  refine HX.out.mono ?_
  rintro e w1 ⟨⟨i0, rfl, hi0, hout⟩ | ⟨rfl, hout⟩, rfl⟩
  · obtain ⟨g, cp, hvv, _, _, hcap, hcap2⟩ := hs.form0 (by omega)
    cases hvv
    have HO := Mx.hid hout
    clear hout HX
    go_wp2_with fail
    go_loopw [5, 6] (fun x y wr => ∃ (j : Nat) (c : List ByteArray), j ≤ l.length ∧ i0 < j ∧ x = .int .i64 ((outL K (l.take j)).length : Int) ∧ y = .int .i64 j ∧ c.length = l.length ∧ Hid ((outL K (l.take j)).length < j) ∧ Hid (c.take (outL K (l.take j)).length = outL K (l.take j)) ∧ Hid (c.drop j = l.drop j) ∧ St w0 wr [⟨.slice (some ⟨g, 0, none⟩) l.length vc, 9, 1, l.length, ss c⟩] []) (fun _ y _ => l.length - (intOf y).toNat)
    case atStart => exact ⟨i0 + 1, l, by omega, by omega, by rw [HO.out, List.length_take, Nat.min_eq_left (by omega)], by go_num, rfl, by rw [HO.out, List.length_take]; show _ < _; omega, by rw [HO.out, List.length_take, Nat.min_eq_left (by omega)]; rfl, rfl, hs⟩
    case round =>
      clear hs
      obtain ⟨j, c, hj, hij, rfl, rfl, hcl, HJ, HT, HD, hs⟩ := hrel
      by_cases hlt : j < l.length
      · obtain ⟨e1, e2⟩ := drop_get HD.out hlt (by omega)
        have c1 : wr.cell? ⟨g, j, none⟩ = some (.string l[j]) := hs.cell (j := j) (by rw [ss_get (by omega), e1])
        have HX := Mx.hid (HN.out l[j] _ _ hs)
        have HO2 := Mx.hid (outL_snoc K hlt)
        have HE2 := Mx.hid e2
        clear e1 e2
        cases hb : memB K l[j] with
        | true =>
          rw [hb] at HX
          have HF := Mx.hid (show outL K (l.take (j + 1)) = outL K (l.take j) by rw [HO2.out, hb]; simp)
          clear hb HO2
          generalize l[j] = y at *
          go_wp2_with (go_at_call 45; refine HX.out.mono ?_; rintro e w2 ⟨rfl, rfl⟩)
          go_roundw
          case rel =>
            repeat apply Exists.intro
            refine ⟨?rel2, rfl⟩
            exact ⟨j + 1, c, by omega, by omega, by rw [HF.out], by go_num, hcl, by rw [HF.out]; show _ < _; have := HJ.out; omega, by rw [HF.out]; exact HT.out, HE2, hs⟩
          case measure => simp [intOf]; omega
        | false =>
          rw [hb] at HX
          have HF := Mx.hid (show outL K (l.take (j + 1)) = outL K (l.take j) ++ [l[j]] by rw [HO2.out, hb]; simp)
          clear hb HO2
          generalize l[j] = y at *
          have hij2 := HJ.out
          obtain ⟨m1, m2, m3⟩ := set_mid (c := c) (i := (outL K (l.take j)).length) (j := j) y (by omega) hij2
          have HM := Mx.hid (And.intro m1 (And.intro m2 m3))
          clear m1 m2 m3
          generalize hI : (outL K (l.take j)).length = i at *
          have HI := Mx.hid hI
          clear hI
          go_wp2_with (first | (go_at_call 45; refine HX.out.mono ?_; rintro e w2 ⟨rfl, rfl⟩) | ((with_reducible show wpList _ _ _ _ _ _); refine wpl_store1 rfl 9 _ _ rfl hs (i) rfl (.string y) rfl rfl (by kernel_rfl) (by rw [ss_len]; omega) rfl ?_; intro w4 hs4))
          go_roundw
          case rel =>
            repeat apply Exists.intro
            refine ⟨?rel3, rfl⟩
            refine ⟨j + 1, c.take i ++ [y] ++ c.drop (i + 1), by omega, by omega, by rw [HF.out]; simp [HI.out], by go_num, by rw [HM.out.1]; exact hcl, by rw [HF.out]; show _ < _; simp [HI.out]; omega, ?_, ?_, hs4.cast rfl (by simp [ss])⟩
            · rw [HF.out]
              show _ = _
              rw [List.length_append, HI.out]
              exact HM.out.2.1.trans (by rw [HT.out])
            · show _ = _
              rw [HM.out.2.2]
              exact HE2.out
          case measure => simp [intOf]; omega
      · obtain rfl : j = l.length := by omega
        have HF := Mx.hid (show outL K (l.take l.length) = outL K l by rw [List.take_length])
        rw [HF.out] at HT HJ
        rw [HF.out]
        have hij2 := HJ.out
        have HT2 := Mx.hid HT.out
        generalize hI : (outL K l).length = i at *
        have hcl2 : (Instr.sliceAt 26 (.slice (some ⟨g, 0, none⟩) l.length vc) (some (.int .i64 (i : Int))) none none).run Try.prog = fun w' => .ok (.slice (some ⟨g, i, none⟩) (l.length - i) (vc - i)) w' := by
          funext w'
          have := run_slice_sl (P := Try.prog) (w := w') Try.elStr (ao := some ⟨g, 0, none⟩) (n := l.length) (cap := vc) hcap (some (.int .i64 (i : Int))) none i l.length (.inr ⟨.i64, rfl⟩) (.inl ⟨rfl, rfl⟩) (by omega) (Nat.le_refl _)
          rw [this, if_neg (by omega)]
          simp [Addr.add]
          intro h; exact h.symm
        have hcl3 := fun w' => congrFun hcl2 w'
        have HI := Mx.hid hI
        clear hcl2 hI HF HJ
        go_wp2_with (first | ((with_reducible show wpList _ _ _ _ _ _); refine wpl_clear rfl 26 _ rfl Try.underlying26 (z := .string ByteArray.empty) (fun _ => by kernel_rfl) rfl rfl hs i _ (by omega) rfl ?_; intro w5 hs5; obtain ⟨v6, hcut, hrow⟩ := hs5.cutTo (P := Try.prog) Try.elStr i (by omega); have hs6 := hrow _ _ _ hs5; clear hrow))
        go_ret
        refine ⟨_, rfl, hs6.cast HI.out.symm ?_⟩
        rw [Nat.mul_one, List.take_append_of_le_length (by rw [List.length_take, ss_len]; omega), List.take_take, Nat.min_self, ← HT2.out]
        simp [ss, List.map_take]
  · have HO := Mx.hid hout
    clear hout HX
    go_wp2_with fail
    go_ret
    exact ⟨_, rfl, by rw [HO.out]; exact hs⟩

end Go.Proofs.Ytojbdlbcaoeffaa

/- marlaw3.CellAfter. -/
import Derived.Test.YtcgdpchekmapfaaDoorCellT
import Derived.Test.YtcgdpchekmapfaaDoorRID
import Derived.Test.YtcgdpchekmapfaaDoorRowLL
import Derived.Test.YtcgdpchekmapfaaDoorPerm
namespace Go.Proofs.YtcgdpchekmapfaaDoor
open Go.RowKit Go.Mx

theorem Tryd.elLz : El Tryd.prog 42 43 1 8 := El.mk' Tryd.underlying42 (z := .pointer none) (by kernel_rfl) rfl (by omega)
/-- A Lazy: its block, its bytes' slice, its bytes; was it asked? -/
abbrev LT := Nat × Value × List UInt8 × Bool
abbrev lrow (t : LT) : Row := LZ t.1 t.2.1 t.2.2.1 t.2.2.2
abbrev lrd (t : LT) : Rd := rdb t.2.1 t.2.2.1
def ptrs (L : List LT) : List Value := L.map fun t => .pointer (some ⟨t.1, 0, none⟩)
def flags (L : List LT) : List Value := L.map fun t => .int .i64 (if t.2.2.2 then 1 else 0)
theorem ptrs_get {L : List LT} {k : Nat} (h : k < L.length) : (ptrs L)[k]? = some (.pointer (some ⟨L[k].1, 0, none⟩)) := by simp [ptrs, h]
theorem flags_get {L : List LT} {k : Nat} (h : k < L.length) : (flags L)[k]? = some (.int .i64 (if L[k].2.2.2 then 1 else 0)) := by simp [flags, h]
def askd (t : LT) : LT := (t.1, t.2.1, t.2.2.1, true)
theorem flags_set {L : List LT} {k : Nat} (h : k < L.length) : (flags L).take k ++ [Value.int .i64 1] ++ (flags L).drop (k + 1) = flags (L.set k (askd L[k])) := by
  have : flags (L.set k (askd L[k])) = (flags L).set k (.int .i64 1) := by simp [flags, askd, List.map_set]
  rw [this, List.set_eq_take_append_cons_drop, if_pos (by simpa [flags] using h)]
  simp
theorem ptrs_set {L : List LT} {k : Nat} (h : k < L.length) : ptrs (L.set k (askd L[k])) = ptrs L := by
  have : ptrs (L.set k (askd L[k])) = (ptrs L).set k (.pointer (some ⟨L[k].1, 0, none⟩)) := by simp [ptrs, askd, List.map_set]
  rw [this]
  apply List.ext_getElem?
  intro i
  rw [List.getElem?_set]
  split
  · rename_i h'; subst h'; rw [if_pos (by simpa [ptrs] using h), ptrs_get h]
  · rfl
theorem lrd_set {L : List LT} {k : Nat} (h : k < L.length) : (L.set k (askd L[k])).map lrd = L.map lrd := by
  rw [List.map_set]
  apply List.ext_getElem?
  intro i
  rw [List.getElem?_set]
  split
  · rename_i h'; subst h'; simp [h, askd]
  · rfl
theorem bytes_set {L : List LT} {k : Nat} (h : k < L.length) : (L.set k (askd L[k])).map (fun t => t.2.2.1) = L.map (fun t => t.2.2.1) := by
  rw [List.map_set]
  apply List.ext_getElem?
  intro i
  rw [List.getElem?_set]
  split
  · rename_i h'; subst h'; simp [h, askd]
  · rfl

theorem flags_false {L : List LT} (h : ∀ t ∈ L, t.2.2.2 = false) : flags L = List.replicate L.length (.int .i64 0) := by
  unfold flags
  rw [List.eq_replicate_iff]
  refine ⟨by simp, fun b hb => ?_⟩
  obtain ⟨t, ht, rfl⟩ := List.mem_map.1 hb
  rw [h t ht]; rfl
theorem pickL {w0 w : World} {A B : Row} {L : List LT} {m : Nat} (hm : m < L.length) (h : St w0 w (A :: B :: L.map lrow) (L.map lrd)) :
    St w0 w (lrow L[m] :: A :: B :: (L.map lrow).eraseIdx m) (lrd L[m] :: L.map lrd) := by
  have P1 := perm_pick (L.map lrow) m (by simpa using hm)
  rw [List.getElem_map] at P1
  have P2 : (A :: B :: L.map lrow).Perm (lrow L[m] :: A :: B :: (L.map lrow).eraseIdx m) := ((P1.cons B).cons A).trans (List.perm_middle (l₁ := [A, B]))
  refine (h.perm P2).sub (List.Sublist.refl _) fun q hq => ?_
  rcases List.mem_cons.1 hq with rfl | hq
  · exact List.mem_map.2 ⟨L[m], List.getElem_mem _, rfl⟩
  · exact hq
theorem backL {w0 w : World} {A B : Row} {L : List LT} {m : Nat} (hm : m < L.length) (h : St w0 w (lrow (askd L[m]) :: A :: B :: (L.map lrow).eraseIdx m) (lrd L[m] :: L.map lrd)) :
    St w0 w (A :: B :: (L.set m (askd L[m])).map lrow) ((L.set m (askd L[m])).map lrd) := by
  have P1 := perm_set (L.map lrow) m (by simpa using hm) (lrow (askd L[m]))
  rw [← List.map_set] at P1
  have P2 : (lrow (askd L[m]) :: A :: B :: (L.map lrow).eraseIdx m).Perm (A :: B :: (L.set m (askd L[m])).map lrow) := (List.perm_middle (l₁ := [A, B])).symm.trans ((P1.cons B).cons A)
  rw [lrd_set hm]
  exact (h.perm P2).tailQ

set_option maxRecDepth 100000 in
set_option maxHeartbeats 4000000 in
theorem cellAfterRow (vl : Value) (l : List (List UInt8)) {w : World} (hl : LL w vl l) (hz : ∀ x ∈ l, x.length ≤ reachBytes) (vo : Value) (o : List Int) (ho : Sl w 1 vo o.length (is o)) (_ho : ∀ x ∈ o, -9223372036854775808 ≤ x ∧ x ≤ 9223372036854775807) (_w : World) (hL : Laid w) :
    Calls Tryd.prog 9 #[vl, vo] w fun e w' => e = .returned (.bool true) ∧ Below w.heap.size w w' := by
  have HL := Mx.hid (fun w' (R : List Row) (Q : List Rd) (h : St w w' R Q) => hL.keep h)
  obtain ⟨lo, lc, blk, off, us, rfl, hlc1, hlc, hcc, hss⟩ := hl.at
  obtain ⟨oo, oc, oblk, ooff, rfl, hoc1, hoc2, _, hoc⟩ := ho.any
  have HC := Mx.hid hcc
  have HU := Mx.hid hss
  have HO := Mx.hid (fun (i : Nat) (hi : i < o.length) => hoc i _ (is_get hi))
  have HOB := Mx.hid (fun (i : Nat) (hi : i < o.length) => _ho o[i] (List.getElem_mem hi))
  have HZ := Mx.hid (fun (i : Nat) (hi : i < l.length) => hz l[i] (List.getElem_mem hi))
  clear hl ho hcc hss hoc hz _ho
  go_enter Tryd.func9, Tryd.ntmps9
  go_wp2_with fail
  refine (cfirst_any w hL).mono ?_
  rintro e w1 ⟨rfl, hs1⟩
  clear hL
  have hend : ∀ (w' : World) (R : List Row) (Q : List Rd), St w w' R Q → Calls Tryd.prog 33 #[] w' fun e w'' => e = .returned (.bool true) ∧ St w w'' R Q := fun w' R Q h => (cfirst_any _ (HL.out _ _ _ h)).mono fun _ _ ⟨h1, h2⟩ => ⟨h1, h.call0 h2⟩
  have HE := Mx.hid hend
  have HS1 := Mx.hid hs1
  clear hend hs1
  go_wp2_with (first | ((with_reducible show wpList _ _ _ _ _ _); refine wpl_want rfl ?_))
  go_loopw [5, 6] (fun x y wr => ∃ (i : Nat) (n : Int), i ≤ l.length ∧ i ≤ 20 ∧ 0 ≤ n ∧ n ≤ 24000 ∧ x = .int .i64 n ∧ y = .int .i64 i ∧ St w wr [] []) (fun _ y _ => l.length - (intOf y).toNat)
  case atStart => exact ⟨0, 0, by omega, by omega, by omega, by omega, rfl, rfl, HS1.out⟩
  case round =>
    obtain ⟨i, n, hi, hi3, hn0, hn1, rfl, rfl, hs⟩ := hrel
    clear HS1
    by_cases hgo : i < l.length ∧ i < 20
    · obtain ⟨hlt, h20⟩ := hgo
      obtain ⟨rfl, c0⟩ := HC.out i hlt
      have hU := HU.out i hlt
      have c1 := hs.keep c0
      obtain ⟨xo, xc, hx, hx1, hx2, _⟩ := hU
      unfold maxLen at hx2
      rw [hx] at c1
      have hb1 : (l[i].length : Int) ≤ 9223372036854775807 := by omega
      clear c0 hx
      generalize l[i].length = z at *
      have q1 : decide ((i : Int) < 20) = true := decide_eq_true (by omega)
      go_wp2_with (first | ((with_reducible show wpList _ _ _ _ _ _); refine wpl_want rfl ?_))
      case roundEnd => exact ⟨⟨i + 1, _, by omega, by omega, by (repeat' split) <;> omega, by (repeat' split) <;> omega, rfl, by go_num, hs⟩, by simp [intOf]; omega⟩
    · have hgo' : (i < l.length ∧ 20 ≤ i) ∨ l.length ≤ i := by omega
      clear hgo
      rcases hgo' with ⟨h1, h2⟩ | h1
      · have q1 : decide ((i : Int) < 20) = false := decide_eq_false (by omega)
        have q2 : decide ((20 : Int) < (l.length : Int)) = true := decide_eq_true (by omega)
        go_wp2_with (first | ((with_reducible show wpList _ _ _ _ _ _); refine wpl_want rfl ?_) | (go_at_call 33; refine (HE.out _ _ _ hs).mono ?_; rintro e w3 ⟨rfl, hs3⟩))
        go_ret
        exact ⟨rfl, hs3.below⟩
      have q2 : decide ((20 : Int) < (l.length : Int)) = false := decide_eq_false (by omega)
      have k3 : l.length ≤ 20 := by omega
      by_cases hroom : 6000 < n
      · have q3 : decide ((6000 : Int) < n) = true := decide_eq_true hroom
        go_wp2_with (first | ((with_reducible show wpList _ _ _ _ _ _); refine wpl_want rfl ?_) | (go_at_call 33; refine (HE.out _ _ _ hs).mono ?_; rintro e w3 ⟨rfl, hs3⟩))
        go_ret
        exact ⟨rfl, hs3.below⟩
      have q3 : decide ((6000 : Int) < n) = false := decide_eq_false hroom
      by_cases h60 : 60 < o.length
      · have q4 : decide ((60 : Int) < (o.length : Int)) = true := decide_eq_true (by omega)
        go_wp2_with (first | ((with_reducible show wpList _ _ _ _ _ _); refine wpl_want rfl ?_) | (go_at_call 33; refine (HE.out _ _ _ hs).mono ?_; rintro e w3 ⟨rfl, hs3⟩))
        go_ret
        exact ⟨rfl, hs3.below⟩
      have q4 : decide ((60 : Int) < (o.length : Int)) = false := decide_eq_false (by omega)
      have k4 : o.length ≤ 60 := by omega
      clear hroom h60
      obtain ⟨C, hC, hmk⟩ := run_make_rep (P := Tryd.prog) (t := 41) (e := 3) (z := .int .i64 0) (bytes := 8) Tryd.underlying41 (by kernel_rfl) rfl (by omega) l.length (by omega)
      have hmk2 := hmk (l.length : Int) rfl
      have hCs : C.size = l.length * 1 := by have := congrArg List.length hC; simpa using this
      have hsA := hs.madeAt C 3 1 l.length wr.heap.size hCs (by unfold maxLen; omega) rfl
      rw [hC] at hsA
      have HSA := Mx.hid hsA
      clear hmk hsA hCs hC hs
      go_wp2_with (first | ((with_reducible show wpList _ _ _ _ _ _); refine wpl_want rfl ?_))
      clear hmk2
      have hsB := HSA.out.addNil 43 1
      have HSB := Mx.hid hsB
      clear HSA hsB
      generalize wr.heap.size = ga at *
      generalize wr.alloc (.cells C 3) = wa at *
      clear q2 q3 q4
      go_loopw [7, 9] (fun x y wr => ∃ (i : Nat) (L : List LT), i ≤ l.length ∧ y = .int .i64 i ∧ Hid (L.length = i ∧ L.map (fun t => t.2.2.1) = l.take i ∧ ∀ t ∈ L, t.2.2.2 = false) ∧ St w wr (⟨x, 43, 1, i, ptrs L⟩ :: ⟨.slice (some ⟨ga, 0, none⟩) l.length l.length, 3, 1, l.length, List.replicate l.length (.int .i64 0)⟩ :: L.map lrow) (L.map lrd)) (fun _ y _ => l.length - (intOf y).toNat)
      case atStart => exact ⟨0, [], by omega, rfl, Mx.hid ⟨rfl, by simp, by simp⟩, HSB.out⟩
      case round =>
        obtain ⟨i, L, hi, rfl, HH, hs⟩ := hrel
        clear HSB
        by_cases hlt : i < l.length
        · obtain ⟨rfl, c0⟩ := HC.out i hlt
          have c1 := hs.keep c0
          have hzi := HZ.out i hlt
          have HN := Mx.hid (newlz_any w wr _ _ (us i) l[i] (hs.old (HU.out i hlt)) hs hzi)
          have HSN := Mx.hid (show l.take (i + 1) = l.take i ++ [l[i]] from List.take_succ_eq_append_getElem hlt)
          obtain ⟨xo, xc, hx, _⟩ := HU.out i hlt
          rw [hx] at c1 HN
          clear c0 hx hs
          generalize l[i] = b at *
          go_wp2_with (first | (go_at_call 34; refine HN.out.mono ?_; rintro e w2 ⟨g, v, rfl, hs2⟩; have hs3 := hs2.perm (List.perm_append_comm (l₁ := [_]) (l₂ := _ :: _ :: L.map lrow))) | (at_builtin; refine wpl_app rfl _ _ 42 rfl Tryd.elLz (hs3.alloc _) rfl (by exact Sl.one _ _ _) (by intro u hu; simp at hu; subst hu; rfl) (by omega) ?_; intro v5 w5 hs5 _))
          have hs6 : St w w5 (⟨v5, 43, 1, i + 1, ptrs (L ++ [(g, v, b, false)])⟩ :: ⟨.slice (some ⟨ga, 0, none⟩) l.length l.length, 3, 1, l.length, List.replicate l.length (.int .i64 0)⟩ :: (L ++ [(g, v, b, false)]).map lrow) ((L ++ [(g, v, b, false)]).map lrd) := by
            have e1 : ptrs (L ++ [(g, v, b, false)]) = ptrs L ++ [.pointer (some ⟨g, 0, none⟩)] := by simp [ptrs]
            rw [e1, List.map_append, List.map_append]
            refine hs5.sub (List.Sublist.refl _) fun q hq => ?_
            rcases List.mem_append.1 hq with h | h
            · exact List.mem_cons_of_mem _ h
            · simp at h; subst h; exact List.mem_cons_self ..
          case roundEnd => exact ⟨⟨i + 1, L ++ [(g, v, b, false)], by omega, by go_num, Mx.hid ⟨by simp [HH.out.1], by rw [HSN.out, ← HH.out.2.1]; simp, fun t ht => by
            rcases List.mem_append.1 ht with h | h
            · exact HH.out.2.2 t h
            · simp at h; subst h; rfl⟩, hs6⟩, by simp [intOf]; omega⟩
        · obtain rfl : i = l.length := by omega
          obtain ⟨xo, xc, rfl, _⟩ := id hs.sl0
          have HH2 := Mx.hid (show L.length = l.length ∧ L.map (fun t => t.2.2.1) = l from ⟨HH.out.1, by rw [HH.out.2.1, List.take_length]⟩)
          have hsC := hs
          rw [← HH.out.1, ← flags_false HH.out.2.2, HH.out.1] at hsC
          have HSC := Mx.hid hsC
          clear hs hsC hlt hi HH
          go_wp2_with fail
          go_loopw [11] (fun y wr => ∃ (i : Nat) (L : List LT), i ≤ o.length ∧ y = .int .i64 i ∧ Hid (L.length = l.length ∧ L.map (fun t => t.2.2.1) = l) ∧ St w wr (⟨.slice xo l.length xc, 43, 1, l.length, ptrs L⟩ :: ⟨.slice (some ⟨ga, 0, none⟩) l.length l.length, 3, 1, l.length, flags L⟩ :: L.map lrow) (L.map lrd)) (fun y _ => o.length - (intOf y).toNat)
          case atStart => exact ⟨0, L, by omega, rfl, HH2, HSC.out⟩
          case round =>
            obtain ⟨i, L, hi, rfl, HH, hs⟩ := hrel
            clear HSC HH2
            by_cases hlt : i < o.length
            · obtain ⟨rfl, c0⟩ := HO.out i hlt
              obtain ⟨b1, b2⟩ := HOB.out i hlt
              have c1 := hs.keep c0
              clear c0
              generalize o[i] = k at *
              by_cases hk : 0 ≤ k ∧ k < l.length
              · obtain ⟨m, rfl⟩ : ∃ m : Nat, k = m := ⟨k.toNat, by omega⟩
                have hml : m < l.length := by omega
                have hm : m < L.length := by have := HH.out.1; omega
                clear hk b1 b2
                obtain ⟨rfl, d0⟩ := HC.out m hml
                have HD0 := Mx.hid d0
                obtain ⟨gx, cx, hv, _, _, hx1, hx2⟩ := hs.form0 (by omega)
                simp only [Value.slice.injEq, true_and] at hv
                obtain ⟨rfl, rfl⟩ := hv
                have HB1 : Hid (L[m].2.2.1 = l[m]) := Mx.hid (by
                  have h1 : (L.map fun t => t.2.2.1)[m]? = l[m]? := by rw [HH.out.2]
                  rw [List.getElem?_map, List.getElem?_eq_getElem hm, List.getElem?_eq_getElem hml] at h1
                  exact Option.some.inj h1)
                have HPG := Mx.hid (ptrs_get hm)
                have HFS := Mx.hid (flags_set hm)
                have HPS := Mx.hid (ptrs_set hm)
                have HLF := Mx.hid (show m < (flags L).length by simp [flags]; exact hm)
                have HPK := Mx.hid (fun (wx : World) A B (h : St w wx (A :: B :: L.map lrow) (L.map lrd)) => pickL hm h)
                have HBK := Mx.hid (fun (wx : World) A B (h : St w wx (lrow (askd L[m]) :: A :: B :: (L.map lrow).eraseIdx m) (lrd L[m] :: L.map lrd)) => backL hm h)
                have HNH : Hid ((L.set m (askd L[m])).length = l.length ∧ (L.set m (askd L[m])).map (fun t => t.2.2.1) = l) := Mx.hid ⟨by rw [List.length_set]; exact HH.out.1, by rw [bytes_set hm]; exact HH.out.2⟩
                have hUm := HU.out m hml
                have hZm := HZ.out m hml
                have HUM := Mx.hid hUm
                obtain ⟨yo, yc, hy, _⟩ := hUm
                rw [hy] at d0 HUM HD0
                have HRD := Mx.hid (fun wx (h : Sl wx 1 (.slice yo l[m].length yc) l[m].length (bs l[m])) => rid_any _ l[m] wx h hZm)
                clear hy d0
                have hbl : l[m].length ≤ 140737488351232 := by unfold reachBytes at hZm; omega
                generalize hlm : l[m] = b0 at *
                clear hlm
                generalize hLm : L[m] = t at *
                have HLm := Mx.hid hLm
                clear hLm
                obtain ⟨g, v, b, f⟩ := t
                obtain rfl : b = b0 := HB1.out
                have HID := Mx.hid (fun (wx : World) R Q (h : St w wx (LZ g v b f :: R) (rdb v b :: Q)) => lid_any w wx R Q g v b f h hbl (fun w' h' => HL.out _ _ _ h'))
                clear hZm hbl
                generalize str (hexL (sha b)) = d at *
                have t0 : (d.toList != d.toList) = false := by simp
                go_wp2_with (first | ((with_reducible show wpList _ _ _ _ _ _); refine wpl_want rfl ?_) | (((with_reducible show wpList _ _ _ _ _ _); refine wpl_store1 rfl 3 _ _ rfl hs.swap (m) rfl (.int .i64 1) rfl rfl (by kernel_rfl) HLF.out rfl ?_; intro w7 ht1); have ht2 := (ht1.cast rfl HFS.out).swap; have e1 := ht2.cell HPG.out; have e2 := ht2.keep HD0.out))
                go_region_held3 (fun W' => W'.cell? ⟨gx, m, none⟩ = some (.pointer (some ⟨g, 0, none⟩)) ∧ W'.cell? ⟨blk, off + m, none⟩ = some (.slice yo b.length yc)) (first | exact ⟨hs9.rcell (List.mem_cons_of_mem _ (List.mem_cons_self ..)) HPG.out, hs9.keep HD0.out⟩ | exact ⟨hs8.rcell (List.mem_cons_of_mem _ (List.mem_cons_self ..)) HPG.out, hs8.keep HD0.out⟩ | go_keep) (first | (go_at_call 35; refine (HID.out _ _ _ (HPK.out _ _ _ ht2.drew)).mono ?_; rintro e w8 ⟨rfl, hs8⟩) | (go_at_call 30; refine (HRD.out _ (hs8.old HUM.out)).mono ?_; rintro e w9 ⟨rfl, hk9⟩; have hs9 := hs8.call0 hk9))
                clear e1 e2
                have hsF := HBK.out _ _ _ hs9
                have hsG : St w w9 (⟨.slice (some ⟨gx, 0, none⟩) l.length xc, 43, 1, l.length, ptrs (L.set m (askd (g, v, b, f)))⟩ :: ⟨.slice (some ⟨ga, 0, none⟩) l.length l.length, 3, 1, l.length, flags (L.set m (askd (g, v, b, f)))⟩ :: (L.set m (askd (g, v, b, f))).map lrow) ((L.set m (askd (g, v, b, f))).map lrd) := by rw [HPS.out]; exact hsF
                clear hsF hs9 hs8 ht2 ht1 hs
                go_wp2_with fail
                case roundEnd => exact ⟨⟨i + 1, L.set m (askd (g, v, b, f)), by omega, by go_num, HNH, hsG⟩, by simp [intOf]; omega⟩
              · have hk' : k < 0 ∨ (0 ≤ k ∧ (l.length : Int) ≤ k) := by omega
                clear hk
                rcases hk' with h | ⟨h, h2⟩
                · have q1 : decide (k < 0) = true := decide_eq_true h
                  go_wp2_with (first | ((with_reducible show wpList _ _ _ _ _ _); refine wpl_want rfl ?_))
                  case roundEnd => exact ⟨⟨i + 1, L, by omega, by go_num, HH, hs⟩, by simp [intOf]; omega⟩
                · have q1 : decide (k < 0) = false := decide_eq_false (by omega)
                  have q2 : decide ((l.length : Int) ≤ k) = true := decide_eq_true h2
                  go_wp2_with (first | ((with_reducible show wpList _ _ _ _ _ _); refine wpl_want rfl ?_))
                  case roundEnd => exact ⟨⟨i + 1, L, by omega, by go_num, HH, hs⟩, by simp [intOf]; omega⟩
            · have HS := Mx.hid hs
              clear hs
              go_wp2_with fail
              go_loopw [13] (fun y wr => ∃ i : Nat, i ≤ l.length ∧ y = .int .i64 i ∧ St w wr (⟨.slice xo l.length xc, 43, 1, l.length, ptrs L⟩ :: ⟨.slice (some ⟨ga, 0, none⟩) l.length l.length, 3, 1, l.length, flags L⟩ :: L.map lrow) (L.map lrd)) (fun y _ => l.length - (intOf y).toNat)
              case atStart => exact ⟨0, by omega, rfl, HS.out⟩
              case round =>
                obtain ⟨i, hi, rfl, hs⟩ := hrel
                clear HS
                by_cases hlt : i < l.length
                · have hm : i < L.length := by have := HH.out.1; omega
                  obtain ⟨gx, cx, hv, _, _, hx1, hx2⟩ := hs.form0 (by omega)
                  simp only [Value.slice.injEq, true_and] at hv
                  obtain ⟨rfl, rfl⟩ := hv
                  have e1 := hs.cell (ptrs_get hm)
                  have e2 := hs.swap.cell (flags_get hm)
                  have HTM := Mx.hid (fun n => ltimes_any w (wr.drewN n) _ _ L[i].1 L[i].2.1 L[i].2.2.1 L[i].2.2.2 (pickL hm (hs.drewN n)))
                  have hb : (if L[i].2.2.2 then (1 : Int) else 0) = 0 ∨ (if L[i].2.2.2 then (1 : Int) else 0) = 1 := by cases L[i].2.2.2 <;> simp
                  generalize (if L[i].2.2.2 then (1 : Int) else 0) = fl at *
                  generalize L[i].1 = g at *
                  have hf0 : 0 ≤ fl := by omega
                  have hf1 : fl ≤ 1 := by omega
                  clear hb hm
                  go_wp2_with fail
                  go_quiet ((go_at_call 36; exact Calls.quiet_of_same ((HTM.out _).mono fun _ _ h => ⟨h.1, h.2.symm⟩)))
                  have hs2 := hs.drewN nq
                  clear e1 e2 HTM hs
                  go_wp2_with fail
                  case roundEnd => exact ⟨⟨i + 1, by omega, by go_num, hs2⟩, by simp [intOf]; omega⟩
                · go_wp2_with (first | ((with_reducible show wpList _ _ _ _ _ _); refine wpl_want rfl ?_) | (go_at_call 33; refine (HE.out _ _ _ hs).mono ?_; rintro e w4 ⟨rfl, hs4⟩))
                  go_ret
                  exact ⟨rfl, hs4.below⟩
end Go.Proofs.YtcgdpchekmapfaaDoor

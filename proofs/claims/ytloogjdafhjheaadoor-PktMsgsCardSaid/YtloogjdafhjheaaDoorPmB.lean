/- Walks of pkt's May, Same. -/
import Derived.Test.YtloogjdafhjheaaDoorPmA
namespace Go.Mx
open Go Go.RowKit
theorem pm_snoc {l : List ByteArray} {i : Nat} (h : i < l.length) (p : ByteArray → Bool) : (l.take (i + 1)).all p = ((l.take i).all p && p l[i]) := by
  rw [List.take_succ_eq_append_getElem h, List.all_append]
  simp
theorem pm_not {l : List ByteArray} {i : Nat} (h : i < l.length) {p : ByteArray → Bool} (hp : p l[i] = false) : l.all p = false := by
  cases ha : l.all p with
  | false => rfl
  | true => rw [List.all_eq_true.1 ha _ (List.getElem_mem h)] at hp; cases hp
end Go.Mx
namespace Go.Proofs.YtloogjdafhjheaaDoor
open Go.RowKit Go.Mx
theorem Tryd.aMsg : Ag Tryd.prog 25 6 := ⟨⟨_, Tryd.underlying25, rfl⟩, by kernel_rfl⟩
theorem Tryd.aMsgR : Ag Tryd.prog 32 6 := ⟨⟨_, Tryd.underlying32, rfl⟩, by kernel_rfl⟩
set_option maxRecDepth 100000 in
theorem mayP_any (iv dv : Value) (m : Ms) (w : World) (h : MB w iv dv m) (hz : ∀ x ∈ m.ids, x.size ≤ 140737488355328) :
    Calls Tryd.prog 15 #[MV iv dv m] w fun e w' => e = .returned (.bool (mayM m)) ∧ St w w' [] [] := by
  obtain ⟨kind, seq, n, mm, ids, data⟩ := m
  have HM : Hid (mayM ⟨kind, seq, n, mm, ids, data⟩ = (decide (1 ≤ kind ∧ kind ≤ 7) && okN seq && okN n && okN mm && ids.all validB && decide (ids.length ≤ 64) && decide (data.length ≤ 1000))) := rfl
  have hi := h.i
  have hd := h.d
  simp only [] at hi hd hz
  obtain ⟨io, ic, blk, off, rfl, i1, i2, _, hic⟩ := hi.txt
  obtain ⟨dq, dc, rfl, d1, d2, -⟩ := hd.form
  have HC := Mx.hid hic
  have HV := Mx.hid (fun (k : Nat) (hk : k < ids.length) wx => valid_any ids[k] wx (hz _ (List.getElem_mem hk)))
  have H1 := Mx.hid (fun wx => withinP_any seq wx)
  have H2 := Mx.hid (fun wx => withinP_any n wx)
  have H3 := Mx.hid (fun wx => withinP_any mm wx)
  unfold maxLen at d2
  unfold MV
  clear h hi hd hz hic
  go_enter Tryd.func15, Tryd.ntmps15
  go_upto_region 1 with (((with_reducible show wpList _ _ _ _ _ _); refine wpl_box rfl 25 _ rfl (St.refl w) ([.int .i64 kind, .int .i64 seq, .int .i64 n, .int .i64 mm, .slice io ids.length ic, .slice dq data.length dc]) (by rfl) ?_; intro gx wx hsx))
  have x0 := hsx.cell (j := 0) rfl
  have x1 := hsx.cell (j := 1) rfl
  have x2 := hsx.cell (j := 2) rfl
  have x3 := hsx.cell (j := 3) rfl
  have x4 := hsx.cell (j := 4) rfl
  have x5 := hsx.cell (j := 5) rfl
  by_cases hk1 : kind < 1
  · have q1 : decide (kind < 1) = true := decide_eq_true hk1
    have HF : Hid (mayM ⟨kind, seq, n, mm, ids, data⟩ = false) := by show _ = _; rw [HM.out, decide_eq_false (by omega)]; rfl
    go_wp2_with (first | ((with_reducible show wpList _ _ _ _ _ _); refine wpl_want rfl ?_) | (go_at_call 34; (with_reducible show Calls _ _ #[Value.int _ seq] _ _); refine (H1.out _).mono ?_; rintro e w2 ⟨rfl, rfl⟩) | (go_at_call 34; (with_reducible show Calls _ _ #[Value.int _ n] _ _); refine (H2.out _).mono ?_; rintro e w2 ⟨rfl, rfl⟩) | (go_at_call 34; (with_reducible show Calls _ _ #[Value.int _ mm] _ _); refine (H3.out _).mono ?_; rintro e w2 ⟨rfl, rfl⟩))
    go_ret
    exact ⟨by rw [HF.out]; rfl, hsx.bare⟩
  have q1 : decide (kind < 1) = false := decide_eq_false hk1
  by_cases hk7 : 7 < kind
  · have q2 : decide (7 < kind) = true := decide_eq_true hk7
    have HF : Hid (mayM ⟨kind, seq, n, mm, ids, data⟩ = false) := by show _ = _; rw [HM.out, decide_eq_false (by omega)]; rfl
    go_wp2_with (first | ((with_reducible show wpList _ _ _ _ _ _); refine wpl_want rfl ?_) | (go_at_call 34; (with_reducible show Calls _ _ #[Value.int _ seq] _ _); refine (H1.out _).mono ?_; rintro e w2 ⟨rfl, rfl⟩) | (go_at_call 34; (with_reducible show Calls _ _ #[Value.int _ n] _ _); refine (H2.out _).mono ?_; rintro e w2 ⟨rfl, rfl⟩) | (go_at_call 34; (with_reducible show Calls _ _ #[Value.int _ mm] _ _); refine (H3.out _).mono ?_; rintro e w2 ⟨rfl, rfl⟩))
    go_ret
    exact ⟨by rw [HF.out]; rfl, hsx.bare⟩
  have q2 : decide (7 < kind) = false := decide_eq_false hk7
  rw [decide_eq_true (show 1 ≤ kind ∧ kind ≤ 7 by omega)] at HM
  clear hk1 hk7
  generalize okN seq = b1 at *
  generalize okN n = b2 at *
  generalize okN mm = b3 at *
  cases b1 with
  | false =>
    have HF : Hid (mayM ⟨kind, seq, n, mm, ids, data⟩ = false) := by show _ = _; rw [HM.out]; rfl
    go_wp2_with (first | ((with_reducible show wpList _ _ _ _ _ _); refine wpl_want rfl ?_) | (go_at_call 34; (with_reducible show Calls _ _ #[Value.int _ seq] _ _); refine (H1.out _).mono ?_; rintro e w2 ⟨rfl, rfl⟩) | (go_at_call 34; (with_reducible show Calls _ _ #[Value.int _ n] _ _); refine (H2.out _).mono ?_; rintro e w2 ⟨rfl, rfl⟩) | (go_at_call 34; (with_reducible show Calls _ _ #[Value.int _ mm] _ _); refine (H3.out _).mono ?_; rintro e w2 ⟨rfl, rfl⟩))
    go_ret
    exact ⟨by rw [HF.out]; rfl, hsx.bare⟩
  | true =>
  cases b2 with
  | false =>
    have HF : Hid (mayM ⟨kind, seq, n, mm, ids, data⟩ = false) := by show _ = _; rw [HM.out]; rfl
    go_wp2_with (first | ((with_reducible show wpList _ _ _ _ _ _); refine wpl_want rfl ?_) | (go_at_call 34; (with_reducible show Calls _ _ #[Value.int _ seq] _ _); refine (H1.out _).mono ?_; rintro e w2 ⟨rfl, rfl⟩) | (go_at_call 34; (with_reducible show Calls _ _ #[Value.int _ n] _ _); refine (H2.out _).mono ?_; rintro e w2 ⟨rfl, rfl⟩) | (go_at_call 34; (with_reducible show Calls _ _ #[Value.int _ mm] _ _); refine (H3.out _).mono ?_; rintro e w2 ⟨rfl, rfl⟩))
    go_ret
    exact ⟨by rw [HF.out]; rfl, hsx.bare⟩
  | true =>
  cases b3 with
  | false =>
    have HF : Hid (mayM ⟨kind, seq, n, mm, ids, data⟩ = false) := by show _ = _; rw [HM.out]; rfl
    go_wp2_with (first | ((with_reducible show wpList _ _ _ _ _ _); refine wpl_want rfl ?_) | (go_at_call 34; (with_reducible show Calls _ _ #[Value.int _ seq] _ _); refine (H1.out _).mono ?_; rintro e w2 ⟨rfl, rfl⟩) | (go_at_call 34; (with_reducible show Calls _ _ #[Value.int _ n] _ _); refine (H2.out _).mono ?_; rintro e w2 ⟨rfl, rfl⟩) | (go_at_call 34; (with_reducible show Calls _ _ #[Value.int _ mm] _ _); refine (H3.out _).mono ?_; rintro e w2 ⟨rfl, rfl⟩))
    go_ret
    exact ⟨by rw [HF.out]; rfl, hsx.bare⟩
  | true =>
  go_wp2_with (first | ((with_reducible show wpList _ _ _ _ _ _); refine wpl_want rfl ?_) | (go_at_call 34; (with_reducible show Calls _ _ #[Value.int _ seq] _ _); refine (H1.out _).mono ?_; rintro e w2 ⟨rfl, rfl⟩) | (go_at_call 34; (with_reducible show Calls _ _ #[Value.int _ n] _ _); refine (H2.out _).mono ?_; rintro e w2 ⟨rfl, rfl⟩) | (go_at_call 34; (with_reducible show Calls _ _ #[Value.int _ mm] _ _); refine (H3.out _).mono ?_; rintro e w2 ⟨rfl, rfl⟩))
  go_loopw [34] (fun y wr => ∃ i : Nat, i ≤ ids.length ∧ y = .int .i64 i ∧ Hid ((ids.take i).all validB = true) ∧ St w wr [(⟨.slice (some ⟨gx, 0, none⟩) 1 1, 25, 6, 1, [.int .i64 kind, .int .i64 seq, .int .i64 n, .int .i64 mm, .slice io ids.length ic, .slice dq data.length dc]⟩ : Row)] []) (fun y _ => ids.length - (intOf y).toNat)
  case atStart => exact ⟨0, by omega, rfl, by simp [Hid], hsx⟩
  case round =>
    clear hsx x0 x1 x2 x3 x4 x5
    obtain ⟨i, hi, rfl, HA, hs⟩ := hrel
    by_cases hlt : i < ids.length
    · obtain ⟨rfl, c0⟩ := HC.out i hlt
      replace c0 := hs.keep c0
      have HVI := Mx.hid (HV.out i hlt)
      have HSN := Mx.hid (pm_snoc hlt validB)
      have HNO := Mx.hid (fun h => pm_not (p := validB) hlt h)
      have HVB : Hid (((unhexL ids[i].data.toList).any fun r => decide (r.length = 32)) = validB ids[i]) := rfl
      rw [HVB.out] at HVI
      generalize validB ids[i] = bv at *
      generalize ids[i] = s at *
      have hii : (i : Int) < (ids.length : Int) := by omega
      cases bv with
      | false =>
        have HF : Hid (mayM ⟨kind, seq, n, mm, ids, data⟩ = false) := by show _ = _; rw [HM.out, HNO.out rfl]; rfl
        go_wp2_with (first | (go_at_call 35; refine (HVI.out _).mono ?_; rintro e w2 ⟨rfl, hk⟩; replace hs := hs.call0 hk))
        go_ret
        exact ⟨by rw [HF.out]; rfl, hs.bare⟩
      | true =>
        go_wp2_with (first | (go_at_call 35; refine (HVI.out _).mono ?_; rintro e w2 ⟨rfl, hk⟩; replace hs := hs.call0 hk))
        exact ⟨⟨i + 1, by omega, by go_num, by show _ = _; rw [HSN.out, HA.out]; rfl, hs⟩, by simp [intOf]; omega⟩
    · have HA2 : Hid (ids.all validB = true) := by
        have := HA.out
        rwa [List.take_of_length_le (by omega)] at this
      have hge : decide ((i : Int) < (ids.length : Int)) = false := decide_eq_false (by omega)
      have x0 := hs.cell (j := 0) rfl
      have x1 := hs.cell (j := 1) rfl
      have x2 := hs.cell (j := 2) rfl
      have x3 := hs.cell (j := 3) rfl
      have x4 := hs.cell (j := 4) rfl
      have x5 := hs.cell (j := 5) rfl
      rw [HA2.out] at HM
      by_cases h64 : ids.length ≤ 64
      · have q3 : decide ((ids.length : Int) ≤ 64) = true := decide_eq_true (by omega)
        rw [decide_eq_true h64] at HM
        by_cases h1000 : data.length ≤ 1000
        · have q4 : decide ((data.length : Int) ≤ 1000) = true := decide_eq_true (by omega)
          rw [decide_eq_true h1000] at HM
          go_wp2_with ((with_reducible show wpList _ _ _ _ _ _); refine wpl_want rfl ?_)
          go_ret
          exact ⟨by rw [HM.out]; rfl, hs.bare⟩
        · have q4 : decide ((data.length : Int) ≤ 1000) = false := decide_eq_false (by omega)
          rw [decide_eq_false h1000] at HM
          go_wp2_with ((with_reducible show wpList _ _ _ _ _ _); refine wpl_want rfl ?_)
          go_ret
          exact ⟨by rw [HM.out]; rfl, hs.bare⟩
      · have q3 : decide ((ids.length : Int) ≤ 64) = false := decide_eq_false (by omega)
        rw [decide_eq_false h64] at HM
        go_wp2_with ((with_reducible show wpList _ _ _ _ _ _); refine wpl_want rfl ?_)
        go_ret
        exact ⟨by rw [HM.out]; rfl, hs.bare⟩
end Go.Proofs.YtloogjdafhjheaaDoor

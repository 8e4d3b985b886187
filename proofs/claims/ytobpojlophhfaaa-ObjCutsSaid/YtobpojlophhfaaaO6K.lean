/- The walk of marlaw6.ObjCuts. -/
import Derived.Test.YtobpojlophhfaaaO6C
namespace Go.Proofs.Ytobpojlophhfaaa
open Go.RowKit Go.Mx

theorem dec_bad (v : Value) (l : List UInt8) (w : World) (hv : Sl w 1 v l.length (bs l)) (hl : l.length ≤ 1000000000) {er : Int} (h : decO l = (noOb, er)) :
    Calls Try.prog 16 #[v] w fun e w' => ∃ a b c d a' b', e = .returned (.tuple #[.agg #[.int .i64 0, .slice a 0 b, .slice c 0 d, .string (str []), .slice a' 0 b', .int .i64 0, .int .i64 0, .string (str [])], .int .i64 er]) ∧ St w w' [] [] :=
  (decode_any v l w hv hl).mono fun e w' ⟨dv, iv, pv, he, hs⟩ => by
    rw [h] at he hs
    obtain ⟨a, b, rfl, _⟩ := hs.sl0
    obtain ⟨c, d, rfl, _⟩ := hs.sl1
    obtain ⟨a', b', rfl, _⟩ := hs.sl2
    exact ⟨a, b, c, d, a', b', he, hs.bare⟩

set_option maxRecDepth 100000 in
set_option maxHeartbeats 4000000 in
theorem objCutsRow (dv iv pv : Value) (o : Ob) {w : World} (h : OB w dv iv pv o) (_hi : OI o) (hz : OZ o ∧ o.data.length ≤ reachBytes) (cut : Int) (hc : (Lit.int .i64 cut).wf = true) (more : UInt8) (_w : World) :
    Calls Try.prog 5 #[OV dv iv pv o, .int .i64 cut, .int .u8 (more.toNat : Int)] w fun e w' => e = .returned (.bool true) ∧ Below w.heap.size w w' := by
  have HF := Mx.hid (fun wx (hs : St w wx [] []) => few_any dv iv pv o wx (OB.old hs h) hz.1)
  have HY := Mx.hid (fun wx (hs : St w wx [] []) => enc_yes (OB.old hs h) hz.1)
  have HN := Mx.hid (fun wx (hs : St w wx [] []) => enc_no (OB.old hs h) hz.1)
  have HK := Mx.hid (rfl : o.kind = o.kind)
  have HC := Mx.hid (fun (hm : mayB o = true) (hk : o.kind ≠ 1) n (hn : n < (encL o).length) => dec_cut hm hk hn)
  have HM := Mx.hid (fun (hm : mayB o = true) (hk : o.kind ≠ 1) => dec_more hm hk more)
  have HL := Mx.hid (fun (hm : mayB o = true) => enc_len hm)
  obtain ⟨d1, d2, rfl, g1, g2, _⟩ := h.d
  obtain ⟨i1, i2, rfl, g3, g4, _⟩ := h.i
  obtain ⟨p1, p2, rfl, g5, g6, _⟩ := h.p
  clear h hz HK
  generalize hma : mayB o = mA at *
  clear hma
  generalize encL o = b at *
  obtain ⟨kind, data, items, tree, parents, stamp, author, msg⟩ := o
  simp only [OV] at *
  go_enter Try.func5, Try.ntmps5
  go_wp2_with (first | (((with_reducible show wpList _ _ _ _ _ _); refine wpl_box rfl 26 _ rfl (St.refl w) ([.int .i64 kind, .slice d1 data.length d2, .slice i1 items.length i2, .string tree, .slice p1 parents.length p2, .int .i64 stamp, .int .i64 author, .string msg]) (by rfl) ?_; intro gx wx hsx); (have x0 := hsx.cell (j := 0) rfl; have x1 := hsx.cell (j := 1) rfl; have x2 := hsx.cell (j := 2) rfl; have x3 := hsx.cell (j := 3) rfl; have x4 := hsx.cell (j := 4) rfl; have x5 := hsx.cell (j := 5) rfl; have x6 := hsx.cell (j := 6) rfl; have x7 := hsx.cell (j := 7) rfl)) | (go_at_call 8; refine (first_any _).mono ?_; rintro e w9 ⟨rfl, hk9⟩; replace hsx := hsx.call0 hk9; (have x0 := hsx.cell (j := 0) rfl; have x1 := hsx.cell (j := 1) rfl; have x2 := hsx.cell (j := 2) rfl; have x3 := hsx.cell (j := 3) rfl; have x4 := hsx.cell (j := 4) rfl; have x5 := hsx.cell (j := 5) rfl; have x6 := hsx.cell (j := 6) rfl; have x7 := hsx.cell (j := 7) rfl)) | ((with_reducible show wpList _ _ _ _ _ _); refine wpl_loadA rfl 26 _ rfl Try.aObj (gx) (0) rfl ([.int .i64 kind, .slice d1 data.length d2, .slice i1 items.length i2, .string tree, .slice p1 parents.length p2, .int .i64 stamp, .int .i64 author, .string msg]) rfl (fun i u h => by rw [Nat.zero_add]; exact hsx.rcell (List.mem_cons_self ..) h) ?_))
  refine (HF.out _ hsx.bare).mono ?_
  rintro e w3 ⟨fb, rfl, hk, -⟩
  replace hsx := hsx.call0 hk
  (have x0 := hsx.cell (j := 0) rfl; have x1 := hsx.cell (j := 1) rfl; have x2 := hsx.cell (j := 2) rfl; have x3 := hsx.cell (j := 3) rfl; have x4 := hsx.cell (j := 4) rfl; have x5 := hsx.cell (j := 5) rfl; have x6 := hsx.cell (j := 6) rfl; have x7 := hsx.cell (j := 7) rfl)
  cases fb with
  | false =>
    go_wp2_with (first | ((with_reducible show wpList _ _ _ _ _ _); refine wpl_want rfl ?_) | (go_at_call 8; refine (first_any _).mono ?_; rintro e w9 ⟨rfl, hk9⟩; replace hsx := hsx.call0 hk9; (have x0 := hsx.cell (j := 0) rfl; have x1 := hsx.cell (j := 1) rfl; have x2 := hsx.cell (j := 2) rfl; have x3 := hsx.cell (j := 3) rfl; have x4 := hsx.cell (j := 4) rfl; have x5 := hsx.cell (j := 5) rfl; have x6 := hsx.cell (j := 6) rfl; have x7 := hsx.cell (j := 7) rfl)))
    go_ret
    exact ⟨rfl, hsx.below⟩
  | true =>
  by_cases hk1 : kind = 1
  · have q1 : (kind == 1) = true := by simpa using hk1
    clear hk1
    go_wp2_with (first | ((with_reducible show wpList _ _ _ _ _ _); refine wpl_want rfl ?_) | (go_at_call 8; refine (first_any _).mono ?_; rintro e w9 ⟨rfl, hk9⟩; replace hsx := hsx.call0 hk9; (have x0 := hsx.cell (j := 0) rfl; have x1 := hsx.cell (j := 1) rfl; have x2 := hsx.cell (j := 2) rfl; have x3 := hsx.cell (j := 3) rfl; have x4 := hsx.cell (j := 4) rfl; have x5 := hsx.cell (j := 5) rfl; have x6 := hsx.cell (j := 6) rfl; have x7 := hsx.cell (j := 7) rfl)))
    go_ret
    exact ⟨rfl, hsx.below⟩
  have q1 : (kind == 1) = false := by simpa using hk1
  have HK1 := Mx.hid hk1
  clear hk1
  go_wp2_with (first | ((with_reducible show wpList _ _ _ _ _ _); refine wpl_want rfl ?_) | ((with_reducible show wpList _ _ _ _ _ _); refine wpl_loadA rfl 26 _ rfl Try.aObj (gx) (0) rfl ([.int .i64 kind, .slice d1 data.length d2, .slice i1 items.length i2, .string tree, .slice p1 parents.length p2, .int .i64 stamp, .int .i64 author, .string msg]) rfl (fun i u h => by rw [Nat.zero_add]; exact hsx.rcell (List.mem_cons_self ..) h) ?_))
  cases mA with
  | false =>
    refine (HN.out _ hsx.bare rfl).mono ?_
    rintro e w4 ⟨rfl, hk⟩
    replace hsx := hsx.call0 hk
    (have x0 := hsx.cell (j := 0) rfl; have x1 := hsx.cell (j := 1) rfl; have x2 := hsx.cell (j := 2) rfl; have x3 := hsx.cell (j := 3) rfl; have x4 := hsx.cell (j := 4) rfl; have x5 := hsx.cell (j := 5) rfl; have x6 := hsx.cell (j := 6) rfl; have x7 := hsx.cell (j := 7) rfl)
    go_wp2_with (first | ((with_reducible show wpList _ _ _ _ _ _); refine wpl_want rfl ?_) | (go_at_call 8; refine (first_any _).mono ?_; rintro e w9 ⟨rfl, hk9⟩; replace hsx := hsx.call0 hk9; (have x0 := hsx.cell (j := 0) rfl; have x1 := hsx.cell (j := 1) rfl; have x2 := hsx.cell (j := 2) rfl; have x3 := hsx.cell (j := 3) rfl; have x4 := hsx.cell (j := 4) rfl; have x5 := hsx.cell (j := 5) rfl; have x6 := hsx.cell (j := 6) rfl; have x7 := hsx.cell (j := 7) rfl)))
    go_ret
    exact ⟨rfl, hsx.below⟩
  | true =>
  refine (HY.out _ hsx.bare rfl).mono ?_
  rintro e w4 ⟨vb, rfl, hk⟩
  obtain ⟨ba, bc, rfl, hbc, hbm, _⟩ := id hk.sl0
  unfold maxLen at hbm
  replace hsx := (hsx.call1 hk).freeze
  simp only [] at hsx
  have hbl := HL.out (by trivial)
  have HC2 := Mx.hid (HC.out (by trivial) HK1.out)
  have HM2 := Mx.hid (HM.out (by trivial) HK1.out)
  clear HC HM HL HY HN HF
  by_cases hc0 : cut < 0
  · have q2 : decide (cut < 0) = true := decide_eq_true hc0
    go_wp2_with (first | ((with_reducible show wpList _ _ _ _ _ _); refine wpl_want rfl ?_) | (go_at_call 8; refine (first_any _).mono ?_; rintro e w9 ⟨rfl, hk9⟩; replace hsx := hsx.call0 hk9; (have x0 := hsx.cell (j := 0) rfl; have x1 := hsx.cell (j := 1) rfl; have x2 := hsx.cell (j := 2) rfl; have x3 := hsx.cell (j := 3) rfl; have x4 := hsx.cell (j := 4) rfl; have x5 := hsx.cell (j := 5) rfl; have x6 := hsx.cell (j := 6) rfl; have x7 := hsx.cell (j := 7) rfl)))
    go_ret
    exact ⟨rfl, hsx.below⟩
  have q2 : decide (cut < 0) = false := decide_eq_false hc0
  obtain ⟨n, rfl⟩ := Int.eq_ofNat_of_zero_le (show 0 ≤ cut by omega)
  clear hc0 hc
  by_cases hcn : b.length ≤ n
  · have q3 : decide ((b.length : Int) ≤ (n : Int)) = true := decide_eq_true (by omega)
    have q4 : decide (b.length ≤ n) = true := decide_eq_true hcn
    go_wp2_with (first | ((with_reducible show wpList _ _ _ _ _ _); refine wpl_want rfl ?_) | (go_at_call 8; refine (first_any _).mono ?_; rintro e w9 ⟨rfl, hk9⟩; replace hsx := hsx.call0 hk9; (have x0 := hsx.cell (j := 0) rfl; have x1 := hsx.cell (j := 1) rfl; have x2 := hsx.cell (j := 2) rfl; have x3 := hsx.cell (j := 3) rfl; have x4 := hsx.cell (j := 4) rfl; have x5 := hsx.cell (j := 5) rfl; have x6 := hsx.cell (j := 6) rfl; have x7 := hsx.cell (j := 7) rfl)))
    go_ret
    exact ⟨rfl, hsx.below⟩
  have q3 : decide ((b.length : Int) ≤ (n : Int)) = false := decide_eq_false (by omega)
  have q4 : decide (b.length ≤ n) = false := decide_eq_false hcn
  have hnl : n ≤ b.length := by omega
  obtain ⟨xa, px, qx⟩ := hsx.q0.cutRun Try.elU8 none (some (.int .i64 (n : Int))) 0 n (.inl ⟨rfl, rfl⟩) (.inr ⟨.i64, rfl⟩) (Nat.zero_le _) hnl
  have hx := Sl.cutB (qx _ hsx.q0) hnl (Nat.zero_le _)
  rw [List.drop_zero] at hx
  obtain ⟨xo, xc, rfl, _⟩ := id hx
  have HD1 := Mx.hid (fun wx (h : St w4 wx [] []) => dec_bad _ (b.take n) wx (h.old hx) (by simp; omega) (HC2.out n (by omega)))
  clear hx qx hcn
  generalize (b.take n).length = tl at *
  have HD2 := Mx.hid (fun wx v (h : Sl wx 1 v (b ++ [more]).length (bs (b ++ [more]))) => dec_bad v (b ++ [more]) wx h (by simp; omega) HM2.out)
  have HN0 : Hid (((if n = 0 then (2 : Int) else 4) != 0) = true ∧ (((if n = 0 then (2 : Int) else 4) == 2) == ((n : Int) == 0)) = true) := by
    by_cases h : n = 0
    · subst h; exact ⟨rfl, rfl⟩
    · refine ⟨by rw [if_neg h]; rfl, ?_⟩
      rw [if_neg h]
      have : ((n : Int) == 0) = false := by simp; omega
      rw [this]; rfl
  generalize (if n = 0 then (2 : Int) else 4) = er at *
  obtain ⟨r1, r2⟩ := HN0.out
  go_wp2_with (first | ((with_reducible show wpList _ _ _ _ _ _); refine wpl_want rfl ?_))
  refine (HD1.out _ (St.refl _)).mono ?_
  rintro e w5 ⟨s1, s2, s3, s4, s5, s6, rfl, hk5⟩
  replace hsx := hsx.call0 hk5
  clear x0 x1 x2 x3 x4 x5 x6 x7
  go_wp2_with (first | ((with_reducible show wpList _ _ _ _ _ _); refine wpl_want rfl ?_) | ((with_reducible show wpList _ _ _ _ _ _); refine wpl_storeA rfl 26 _ _ rfl Try.aObj (hs10.made ([.int .i64 (0), .slice none 0 0, .slice none 0 0, .string (str []), .slice none 0 0, .int .i64 (0), .int .i64 (0), .string (str [])]).toArray 26 8 1 rfl (by simp [maxLen])) (0) rfl ([.int .i64 (0), .slice t1 0 t2, .slice t3 0 t4, .string (str []), .slice t5 0 t6, .int .i64 (0), .int .i64 (0), .string (str [])]) rfl (by rfl) (by simp) (by intro u hu; simp at hu; rcases hu with rfl | rfl | rfl | rfl | rfl | rfl | rfl | rfl <;> rfl) ?_; intro w11 hs11) | ((with_reducible show wpList _ _ _ _ _ _); refine wpl_storeA rfl 26 _ _ rfl Try.aObj (hsx.made ([.int .i64 (0), .slice none 0 0, .slice none 0 0, .string (str []), .slice none 0 0, .int .i64 (0), .int .i64 (0), .string (str [])]).toArray 26 8 1 rfl (by simp [maxLen])) (0) rfl ([.int .i64 (0), .slice s1 0 s2, .slice s3 0 s4, .string (str []), .slice s5 0 s6, .int .i64 (0), .int .i64 (0), .string (str [])]) rfl (by rfl) (by simp) (by intro u hu; simp at hu; rcases hu with rfl | rfl | rfl | rfl | rfl | rfl | rfl | rfl <;> rfl) ?_; intro w6 hs6) | (go_at_call 17; refine (copyBytes_any _ b _ hs6.q0 (by omega)).mono ?_; rintro e w7 ⟨vc, rfl, hk7⟩; have hs7 := hs6.call1 hk7) | ((with_reducible show wpList _ _ _ _ _ _); refine wpl_lit1 rfl 22 _ rfl Try.elU8 hs7 (.int .u8 (more.toNat : Int)) (by rfl) (by rfl) ?_; intro gl w8 hs8) | (at_builtin; refine wpl_app rfl _ _ 22 rfl Try.elU8 hs8.swap rfl (by exact hs8.sl0) (by intro u hu; simp at hu; subst hu; rfl) (by omega) ?_; intro v9 w9 hs9 _; replace hs9 := hs9.cast (show _ = (b ++ [more]).length by simp) (show _ = bs (b ++ [more]) by rw [bs_app]; rfl)) | (go_at_call 16; refine (HD2.out _ _ hs9.sl0).mono ?_; rintro e w10 ⟨t1, t2, t3, t4, t5, t6, rfl, hk10⟩; have hs10 := hs9.call0 hk10) | (go_at_call 8; refine (first_any _).mono ?_; rintro e w12 ⟨rfl, hk12⟩; have hs12 := hs11.call0 hk12))
  go_ret
  exact ⟨rfl, hs12.below⟩
end Go.Proofs.Ytobpojlophhfaaa

/- marlaw15.Diff3Apart: it returns true and leaves what was there as it was. -/
import Derived.Test.YtafmgclhgmhflaaDoorD3LT
import Derived.Test.YtafmgclhgmhflaaDoorD3A
namespace Go.Proofs.YtafmgclhgmhflaaDoor
open Go.RowKit Go.Mx

theorem t5_cells {i : Nat} (hi : i < 100) (sg x : UInt8) : ([.int .u8 (sg.toNat : Int), .int .u8 (48 + (i : Int) / 10), .int .u8 (48 + (i : Int) % 10), .int .u8 (97 + (x.toNat : Int) % 26), .int .u8 10] : List Value) = bs (t5 sg i x) := by
  show _ = [Value.int .u8 _, Value.int .u8 _, Value.int .u8 _, Value.int .u8 _, Value.int .u8 _]
  rw [u8_nat (by omega), u8_nat (by omega), u8_nat (by omega), show ((48 + i / 10 : Nat) : Int) = 48 + (i : Int) / 10 by omega, show ((48 + i % 10 : Nat) : Int) = 48 + (i : Int) % 10 by omega, show ((97 + x.toNat % 26 : Nat) : Int) = 97 + (x.toNat : Int) % 26 by omega]
  rfl
theorem str_add (l m : List UInt8) : str l ++ str m = str (l ++ m) := by
  apply ByteArray.ext
  simp [str]
set_option maxRecDepth 100000 in
set_option maxHeartbeats 4000000 in
theorem tell_any (z : Int) (sg : UInt8) (hz : (sg.toNat : Int) = z) (v : Value) (b : List UInt8) (w : World) (hv : Sl w 1 v b.length (bs b)) (lb : b.length ≤ 60) :
    Calls Tryd.prog 20 #[.int .u8 z, v] w fun e w' => e = .returned (.string (str (tL sg b))) ∧ St w w' [] [] := by
  subst hz
  have hsg := u8_lt sg
  obtain ⟨ao, cap, blk, off, rfl, h1, h2, _, hc⟩ := hv.byt
  have HC := Mx.hid hc
  clear hc hv
  go_enter Tryd.func20, Tryd.ntmps20
  go_wp2_with fail
  go_loopw [5, 6] (fun x y wr => ∃ i : Nat, i ≤ b.length ∧ x = .string (str (tF sg b i)) ∧ y = .int .i64 i ∧ St w wr [] []) (fun _ y _ => b.length - (intOf y).toNat)
  case atStart => exact ⟨0, by omega, rfl, rfl, St.refl w⟩
  case round =>
    obtain ⟨i, hi, rfl, rfl, hs⟩ := hrel
    by_cases hlt : i < b.length
    · obtain ⟨rfl, c1⟩ := HC.out i hlt
      replace c1 := hs.keep c1
      have hii : (i : Int) < (b.length : Int) := by omega
      have hst := Mx.hid (tF_succ sg b i)
      have hgd : b.getD i 0 = b[i] := by simp [List.getD_eq_getElem?_getD, List.getElem?_eq_getElem hlt]
      have HGD := Mx.hid hgd
      clear hgd
      generalize b[i] = x at *
      have hx := u8_lt x
      have hq : Sl (wr.alloc (.cells #[.int .u8 (sg.toNat : Int), .int .u8 (48 + (i : Int) / 10), .int .u8 (48 + (i : Int) % 10), .int .u8 (97 + (x.toNat : Int) % 26), .int .u8 10] 5)) 1 (.slice (some ⟨wr.heap.size, 0, none⟩) 5 5) 5 (bs (t5 sg i x)) := by
        rw [← t5_cells (by omega) sg x]
        exact ((St.refl wr).made #[.int .u8 (sg.toNat : Int), .int .u8 (48 + (i : Int) / 10), .int .u8 (48 + (i : Int) % 10), .int .u8 (97 + (x.toNat : Int) % 26), .int .u8 10] 5 1 5 rfl (by simp [maxLen])).sl0
      have HAD := Mx.hid (str_add (tF sg b i) (t5 sg i x))
      have hsz : (str (tF sg b i)).size ≤ 300 := by rw [str_size, tF_len]; omega
      have hsz2 : (str (t5 sg i x)).size ≤ 5 := by rw [str_size]; exact Nat.le_refl 5
      have hs2 := hs.alloc (.cells #[.int .u8 (sg.toNat : Int), .int .u8 (48 + (i : Int) / 10), .int .u8 (48 + (i : Int) % 10), .int .u8 (97 + (x.toNat : Int) % 26), .int .u8 10] 5)
      go_wp2_with ((with_reducible show wpList _ _ _ _ _ _); refine wpl_b2s rfl 36 9 5 _ rfl Tryd.underlying36 Tryd.underlying5 Tryd.underlying9 (by exact hq) ?_)
      rw [HAD.out]
      go_roundw
      case rel => exact ⟨i + 1, by omega, by rw [hst.out, HGD.out], by go_num, hs2⟩
      case measure => simp [intOf]; omega
    · have hin : i = b.length := by omega
      subst hin
      go_wp2_with fail
      go_ret
      exact ⟨rfl, hs⟩

set_option maxRecDepth 100000 in
set_option maxHeartbeats 8000000 in
theorem diff3Apart_any (w : World) (vf vg vx vy : Value) (f g x y : List UInt8) (hf : Sl w 1 vf f.length (bs f)) (hg : Sl w 1 vg g.length (bs g)) (hx : Sl w 1 vx x.length (bs x)) (hy : Sl w 1 vy y.length (bs y)) :
    Calls Tryd.prog 7 #[vf, vg, vx, vy] w fun e w' => e = .returned (.bool true) ∧ Below w.heap.size w w' := by
  have HF := Mx.hid hf
  have HG := Mx.hid hg
  have HX := Mx.hid hx
  have HY := Mx.hid hy
  obtain ⟨f1, f2, rfl, h1, h2, _, _⟩ := hf.form
  obtain ⟨g1, g2, rfl, h3, h4, _, _⟩ := hg.form
  obtain ⟨x1, x2, rfl, h5, h6, _, _⟩ := hx.form
  obtain ⟨y1, y2, rfl, h7, h8, _, _⟩ := hy.form
  unfold maxLen at h2 h4 h6 h8
  clear hf hg hx hy
  go_enter Tryd.func7, Tryd.ntmps7
  go_wp2_with fail
  refine (first_any _).mono ?_
  rintro e w1 ⟨rfl, hs1⟩
  by_cases t1 : 60 < f.length
  · have d1 : decide ((60 : Int) < (f.length : Int)) = true := decide_eq_true (by omega)
    go_wp2_with (first | ((with_reducible show wpList _ _ _ _ _ _); refine wpl_want rfl ?_) | (go_at_call 9; refine (first_any _).mono ?_; rintro e w2 ⟨rfl, hs2⟩))
    go_ret
    exact ⟨rfl, (hs1.call0 hs2).below⟩
  have d1 : decide ((60 : Int) < (f.length : Int)) = false := decide_eq_false (by omega)
  by_cases t2 : 60 < g.length
  · have d2 : decide ((60 : Int) < (g.length : Int)) = true := decide_eq_true (by omega)
    go_wp2_with (first | ((with_reducible show wpList _ _ _ _ _ _); refine wpl_want rfl ?_) | (go_at_call 9; refine (first_any _).mono ?_; rintro e w2 ⟨rfl, hs2⟩))
    go_ret
    exact ⟨rfl, (hs1.call0 hs2).below⟩
  have d2 : decide ((60 : Int) < (g.length : Int)) = false := decide_eq_false (by omega)
  by_cases t3 : 60 < x.length
  · have d3 : decide ((60 : Int) < (x.length : Int)) = true := decide_eq_true (by omega)
    go_wp2_with (first | ((with_reducible show wpList _ _ _ _ _ _); refine wpl_want rfl ?_) | (go_at_call 9; refine (first_any _).mono ?_; rintro e w2 ⟨rfl, hs2⟩))
    go_ret
    exact ⟨rfl, (hs1.call0 hs2).below⟩
  have d3 : decide ((60 : Int) < (x.length : Int)) = false := decide_eq_false (by omega)
  by_cases t4 : 60 < y.length
  · have d4 : decide ((60 : Int) < (y.length : Int)) = true := decide_eq_true (by omega)
    go_wp2_with (first | ((with_reducible show wpList _ _ _ _ _ _); refine wpl_want rfl ?_) | (go_at_call 9; refine (first_any _).mono ?_; rintro e w2 ⟨rfl, hs2⟩))
    go_ret
    exact ⟨rfl, (hs1.call0 hs2).below⟩
  have d4 : decide ((60 : Int) < (y.length : Int)) = false := decide_eq_false (by omega)
  have lf : f.length ≤ 60 := by omega
  have lg : g.length ≤ 60 := by omega
  have lx : x.length ≤ 60 := by omega
  have ly : y.length ≤ 60 := by omega
  clear t1 t2 t3 t4
  have HR := Mx.hid (apart_R (f := f) (g := g) (x := x) (y := y) lf lg lx ly)
  go_wp2_with (first | ((with_reducible show wpList _ _ _ _ _ _); refine wpl_want rfl ?_))
  clear d1 d2 d3 d4
  refine (tell_any _ 102 rfl _ f _ (hs1.old HF.out) lf).mono ?_
  rintro e w2 ⟨rfl, hs2⟩
  replace hs2 := hs1.call0 hs2
  go_wp2_with fail
  refine (tell_any _ 103 rfl _ g _ (hs2.old HG.out) lg).mono ?_
  rintro e w3 ⟨rfl, hs3⟩
  replace hs3 := hs2.call0 hs3
  go_wp2_with fail
  refine (tell_any _ 120 rfl _ x _ (hs3.old HX.out) lx).mono ?_
  rintro e w4 ⟨rfl, hs4⟩
  replace hs4 := hs3.call0 hs4
  go_wp2_with fail
  refine (tell_any _ 121 rfl _ y _ (hs4.old HY.out) ly).mono ?_
  rintro e w5 ⟨rfl, hs5⟩
  replace hs5 := hs4.call0 hs5
  clear hs1 hs2 hs3 hs4
  have A1 : Hid (str (tL 102 f) ++ (⟨#[109, 105, 100, 10]⟩ : ByteArray) ++ str (tL 103 g) = str (cat3 102 f 103 g)) := by show str (tL 102 f) ++ str midL ++ str (tL 103 g) = _; rw [str_add, str_add]; rfl
  have A2 : Hid (str (tL 120 x) ++ (⟨#[109, 105, 100, 10]⟩ : ByteArray) ++ str (tL 103 g) = str (cat3 120 x 103 g)) := by show str (tL 120 x) ++ str midL ++ str (tL 103 g) = _; rw [str_add, str_add]; rfl
  have A3 : Hid (str (tL 102 f) ++ (⟨#[109, 105, 100, 10]⟩ : ByteArray) ++ str (tL 121 y) = str (cat3 102 f 121 y)) := by show str (tL 102 f) ++ str midL ++ str (tL 121 y) = _; rw [str_add, str_add]; rfl
  have A4 : Hid (str (tL 120 x) ++ (⟨#[109, 105, 100, 10]⟩ : ByteArray) ++ str (tL 121 y) = str (cat3 120 x 121 y)) := by show str (tL 120 x) ++ str midL ++ str (tL 121 y) = _; rw [str_add, str_add]; rfl
  have z1 : (str (tL 102 f)).size ≤ 300 := by rw [str_size]; unfold tL; rw [tF_len]; omega
  have z2 : (str (tL 103 g)).size ≤ 300 := by rw [str_size]; unfold tL; rw [tF_len]; omega
  have z3 : (str (tL 120 x)).size ≤ 300 := by rw [str_size]; unfold tL; rw [tF_len]; omega
  have z4 : (str (tL 121 y)).size ≤ 300 := by rw [str_size]; unfold tL; rw [tF_len]; omega
  have m1 : (str (tL 102 f) ++ (⟨#[109, 105, 100, 10]⟩ : ByteArray) ++ str (tL 103 g)).size ≤ maxLen := by rw [A1.out, str_size, cat3_len]; unfold maxLen; omega
  have m2 : (str (tL 120 x) ++ (⟨#[109, 105, 100, 10]⟩ : ByteArray) ++ str (tL 103 g)).size ≤ maxLen := by rw [A2.out, str_size, cat3_len]; unfold maxLen; omega
  have m3 : (str (tL 102 f) ++ (⟨#[109, 105, 100, 10]⟩ : ByteArray) ++ str (tL 121 y)).size ≤ maxLen := by rw [A3.out, str_size, cat3_len]; unfold maxLen; omega
  have M1 := Mx.hid m1
  have M2 := Mx.hid m2
  have M3 := Mx.hid m3
  clear m1 m2 m3
  go_wp2_with (first | ((with_reducible show wpList _ _ _ _ _ _); refine wpl_s2b rfl 9 36 5 _ rfl Tryd.underlying9 Tryd.underlying36 Tryd.underlying5 hs5 rfl M1.out ?_; intro v6 w6 hs6) | ((with_reducible show wpList _ _ _ _ _ _); refine wpl_s2b rfl 9 36 5 _ rfl Tryd.underlying9 Tryd.underlying36 Tryd.underlying5 hs6 rfl M2.out ?_; intro v7 w7 hs7) | ((with_reducible show wpList _ _ _ _ _ _); refine wpl_s2b rfl 9 36 5 _ rfl Tryd.underlying9 Tryd.underlying36 Tryd.underlying5 hs7 rfl M3.out ?_; intro v8 w8 hs8))
  have r1 := (hs8.tail.tail.cast (n' := (cat3 102 f 103 g).length) (xs' := bs (cat3 102 f 103 g)) (by rw [A1.out, str_size]) (by rw [A1.out, str_data])).sl0
  have r2 := (hs8.tail.cast (n' := (cat3 120 x 103 g).length) (xs' := bs (cat3 120 x 103 g)) (by rw [A2.out, str_size]) (by rw [A2.out, str_data])).sl0
  have r3 := (hs8.cast (n' := (cat3 102 f 121 y).length) (xs' := bs (cat3 102 f 121 y)) (by rw [A3.out, str_size]) (by rw [A3.out, str_data])).sl0
  refine (merge_as _ _ _ _ _ _ _ r1 r2 r3 (by rw [cat3_len]; omega) (by rw [cat3_len]; omega) (by rw [cat3_len]; omega) HR.out.2 HR.out.1).mono ?_
  rintro e w9 ⟨vm, rfl, hs9⟩
  simp only [Option.getD_some, Option.isSome_some] at hs9 ⊢
  replace hs9 := hs8.bare.call1 hs9
  clear r1 r2 r3
  go_wp2_with fail
  refine (first_any _).mono ?_
  rintro e wA ⟨rfl, hsA⟩
  replace hsA := hs9.call0 hsA
  have hm := hsA.sl0
  have ht : ((str (cat3 120 x 121 y)).toList == (str (tL 120 x) ++ (⟨#[109, 105, 100, 10]⟩ : ByteArray) ++ str (tL 121 y)).toList) = true := by rw [A4.out]; simp
  go_wp2_with (first | ((with_reducible show wpList _ _ _ _ _ _); refine wpl_want rfl ?_) | ((with_reducible show wpList _ _ _ _ _ _); refine wpl_b2s rfl 36 9 5 _ rfl Tryd.underlying36 Tryd.underlying5 Tryd.underlying9 (by exact hm) ?_))
  go_ret
  exact ⟨rfl, hsA.below⟩

theorem diff3ApartRow (vf : Value) (f : List UInt8) {w : World} (hf : Sl w 1 vf f.length (bs f)) (vg : Value) (g : List UInt8) (hg : Sl w 1 vg g.length (bs g)) (vx : Value) (x : List UInt8) (hx : Sl w 1 vx x.length (bs x)) (vy : Value) (y : List UInt8) (hy : Sl w 1 vy y.length (bs y)) (_w : World) :
    Calls Tryd.prog 7 #[vf, vg, vx, vy] w fun e w' => e = .returned (.bool true) ∧ Below w.heap.size w w' := diff3Apart_any w vf vg vx vy f g x y hf hg hx hy
end Go.Proofs.YtafmgclhgmhflaaDoor

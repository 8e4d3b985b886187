/- Walks of marlaw6.first, Few. -/
import Derived.Test.YtlfdnlomlbbicaaObjW
namespace Go.Proofs.Ytlfdnlomlbbicaa
open Go.RowKit Go.Mx

theorem enc_hi : encL ⟨1, [104, 105], [], str [], [], 0, 0, str []⟩ = [1, 104, 105] := by decide
theorem enc_none : encL ⟨2, [], [], str [], [], 0, 0, str []⟩ = [2, 0] := by
  unfold encL
  rw [if_neg (by decide), if_pos rfl]
  show 2 :: (putL 0 ++ []) = _
  rw [putL]
  rfl
theorem may_hi : mayB ⟨1, [104, 105], [], str [], [], 0, 0, str []⟩ = true := by decide
theorem may_none : mayB ⟨2, [], [], str [], [], 0, 0, str []⟩ = true := by decide
theorem oz_hi (d : List UInt8) (k : Int) : OZ ⟨k, d, [], str [], [], 0, 0, str []⟩ := ⟨by rw [str_size]; simp, by rw [str_size]; simp, by simp, by simp⟩

set_option maxRecDepth 100000 in
set_option maxHeartbeats 1000000 in
theorem first_any (w : World) : Calls Try.prog 7 #[] w fun e w' => e = .returned (.bool true) ∧ St w w' [] [] := by
  have H1 := Mx.hid (fun (wx : World) dv (hd : Sl wx 1 dv 2 (bs [104, 105])) => encode_any dv (.slice none 0 0) (.slice none 0 0) ⟨1, [104, 105], [], str [], [], 0, 0, str []⟩ wx ⟨hd, Sl.nil _ 3, Sl.nil _ 1⟩ (oz_hi _ _) |>.mono fun e w' h => (show ∃ v, e = .returned (.tuple #[v, .int .i64 0]) ∧ St wx w' [(⟨v, 5, 1, ([1, 104, 105]).length, bs ([1, 104, 105])⟩ : Row)] [] by unfold EncPost at h; rw [if_pos may_hi, enc_hi] at h; exact h))
  have H2 := Mx.hid (fun (wx : World) => encode_any (.slice none 0 0) (.slice none 0 0) (.slice none 0 0) ⟨2, [], [], str [], [], 0, 0, str []⟩ wx ⟨Sl.nil _ 1, Sl.nil _ 3, Sl.nil _ 1⟩ (oz_hi _ _) |>.mono fun e w' h => (show ∃ v, e = .returned (.tuple #[v, .int .i64 0]) ∧ St wx w' [(⟨v, 5, 1, ([2, 0]).length, bs ([2, 0])⟩ : Row)] [] by unfold EncPost at h; rw [if_pos may_none, enc_none] at h; exact h))
  have hs0 := (St.refl w).madeM #[.int .u8 104, .int .u8 105] 5 1 2 rfl (by simp [maxLen])
  have hs0' : Sl (w.alloc (.cells #[.int .u8 104, .int .u8 105] 5 (2, 3))) 1 (.slice (some ⟨w.heap.size, 0, none⟩) 2 2) 2 (bs [104, 105]) := by
    have h := hs0.sl0
    have e : bs [104, 105] = #[Value.int .u8 104, .int .u8 105].toList := by simp [bs]
    rw [e]
    exact h
  have HH1 := Mx.hid (H1.out _ _ hs0')
  have HH2 := Mx.hid (fun wx => H2.out wx)
  clear H1 H2
  unfold OV at HH1 HH2
  have e1 : ((str [1, 104, 105]).toList == [1, 104, 105]) = true := by rw [str_toL]; rfl
  have e2 : ((str [2, 0]).toList == [2, 0]) = true := by rw [str_toL]; rfl
  have kc := fun (w : World) (C : Array Value) (n c : Nat) => Lib.run_convert_bytes_const (P := Try.prog) w 22 5 C n c Try.underlying22 Try.underlying5
  go_enter Try.func7, Try.ntmps7
  go_wp2_with (first | ((with_reducible show wpList _ _ _ _ _ _); refine wpl_want rfl ?_) | (go_at_call 10; (with_reducible show Calls _ _ _ (World.alloc _ _) _); refine HH1.out.mono ?_; rintro e w1 ⟨v1, rfl, hk1⟩; have hs1 := hs0.bare.call1 hk1) | (go_at_call 10; (with_reducible show Calls _ _ #[Value.agg #[Value.int _ 2, _, _, _, _, _, _, _]] _ _); refine (HH2.out _).mono ?_; rintro e w2 ⟨v2, rfl, hk2⟩; have hs2 := hs1.call1 hk2) | ((with_reducible show wpList _ _ _ _ _ _); refine wpl_b2s rfl 22 9 5 _ rfl Try.underlying22 Try.underlying5 Try.underlying9 (by exact hs2.sl1) ?_) | ((with_reducible show wpList _ _ _ _ _ _); refine wpl_b2s rfl 22 9 5 _ rfl Try.underlying22 Try.underlying5 Try.underlying9 (by exact hs2.sl0) ?_))
  go_ret
  exact ⟨rfl, hs2.bare⟩

/-- What Few tells. -/
def FewPost (w : World) (o : Ob) (e : Ending) (w' : World) : Prop :=
  ∃ b, e = .returned (.bool b) ∧ St w w' [] [] ∧ (b = true → o.items.length ≤ 400 ∧ o.parents.length ≤ 400 ∧ o.data.length ≤ 30000 ∧ o.tree.size ≤ 30000 ∧ o.msg.size ≤ 30000)

set_option maxRecDepth 100000 in
set_option maxHeartbeats 2000000 in
theorem few_any (dv iv pv : Value) (o : Ob) (w : World) (h : OB w dv iv pv o) (hz : OZ o) :
    Calls Try.prog 8 #[OV dv iv pv o] w (FewPost w o) := by
  obtain ⟨d1, d2, rfl, g1, g2, _⟩ := h.d
  obtain ⟨i1, i2, blk, off, hiv, g3, g4, hc⟩ := itm_cells h.i
  subst hiv
  obtain ⟨p1, p2, blk', off', hpv, g5, g6, _, hc'⟩ := h.p.txt
  subst hpv
  have HC := Mx.hid hc
  have HC' := Mx.hid hc'
  have HZ := Mx.hid (fun (i : Nat) (hi : i < o.items.length) => hz.it o.items[i] (List.getElem_mem hi))
  have HZ' := Mx.hid (fun (i : Nat) (hi : i < o.parents.length) => hz.ps o.parents[i] (List.getElem_mem hi))
  have z1 := hz.tr
  have z2 := hz.ms
  unfold maxLen at g2
  clear hc hc' h hz
  obtain ⟨kind, data, items, tree, parents, stamp, author, msg⟩ := o
  simp only [OV] at *
  go_enter Try.func8, Try.ntmps8
  go_wp2_with (((with_reducible show wpList _ _ _ _ _ _); refine wpl_box rfl 26 _ rfl (St.refl w) ([.int .i64 kind, .slice d1 data.length d2, .slice i1 items.length i2, .string tree, .slice p1 parents.length p2, .int .i64 stamp, .int .i64 author, .string msg]) (by rfl) ?_; intro gx wx hsx); (have x0 := hsx.cell (j := 0) rfl; have x1 := hsx.cell (j := 1) rfl; have x2 := hsx.cell (j := 2) rfl; have x3 := hsx.cell (j := 3) rfl; have x4 := hsx.cell (j := 4) rfl; have x5 := hsx.cell (j := 5) rfl; have x6 := hsx.cell (j := 6) rfl; have x7 := hsx.cell (j := 7) rfl))
  go_loopw [3, 4] (fun x y wr => ∃ (n : Int) (i : Nat), x = .int .i64 n ∧ 0 ≤ n ∧ n ≤ 120000 ∧ i ≤ items.length ∧ i ≤ 400 ∧ y = .int .i64 i ∧ St w wr [(⟨.slice (some ⟨gx, 0, none⟩) 1 1, 26, 8, 1, [.int .i64 kind, .slice d1 data.length d2, .slice i1 items.length i2, .string tree, .slice p1 parents.length p2, .int .i64 stamp, .int .i64 author, .string msg]⟩ : Row)] []) (fun _ y _ => items.length - (intOf y).toNat)
  case atStart => exact ⟨0, 0, rfl, by omega, by omega, by omega, by omega, rfl, hsx⟩
  case round =>
    obtain ⟨n, i, rfl, hn0, hn1, hi, hi4, rfl, hs⟩ := hrel
    (have x0 := hs.cell (j := 0) rfl; have x1 := hs.cell (j := 1) rfl; have x2 := hs.cell (j := 2) rfl; have x3 := hs.cell (j := 3) rfl; have x4 := hs.cell (j := 4) rfl; have x5 := hs.cell (j := 5) rfl; have x6 := hs.cell (j := 6) rfl; have x7 := hs.cell (j := 7) rfl)
    by_cases hlt : i < items.length ∧ i < 400
    · obtain ⟨hlt, hlt4⟩ := hlt
      obtain ⟨rfl, c0, c1, c2⟩ := HC.out i hlt
      have c0 := hs.keep c0
      have c1 := hs.keep c1
      have c2 := hs.keep c2
      obtain ⟨z3, z4, _, _⟩ := HZ.out i hlt
      have q1 : decide ((i : Int) < 400) = true := decide_eq_true (by omega)
      have q2 : decide (i < 400) = true := decide_eq_true (by omega)
      generalize items[i] = y at *
      obtain ⟨m, nme, hsh⟩ := y
      simp only [] at *
      go_wp2_with (first | ((with_reducible show wpList _ _ _ _ _ _); refine wpl_want rfl ?_))
      go_quiet (fail)
      go_wp2_with fail
      go_roundw
      case rel => exact ⟨_, i + 1, rfl, by omega, by omega, by omega, by omega, by go_num, hs.drewN _⟩
      case measure => simp [intOf]; omega
    · by_cases hp : i < items.length
      · have q1 : decide ((i : Int) < 400) = false := decide_eq_false (by omega)
        have q2 : decide (i < 400) = false := decide_eq_false (by omega)
        clear hlt hi
        go_wp2_with (first | ((with_reducible show wpList _ _ _ _ _ _); refine wpl_want rfl ?_))
        go_loopw [3, 5] (fun x y wr => ∃ (n : Int) (i : Nat), x = .int .i64 n ∧ 0 ≤ n ∧ n ≤ 120000 ∧ i ≤ parents.length ∧ i ≤ 400 ∧ y = .int .i64 i ∧ St w wr [(⟨.slice (some ⟨gx, 0, none⟩) 1 1, 26, 8, 1, [.int .i64 kind, .slice d1 data.length d2, .slice i1 items.length i2, .string tree, .slice p1 parents.length p2, .int .i64 stamp, .int .i64 author, .string msg]⟩ : Row)] []) (fun _ y _ => parents.length - (intOf y).toNat)
        case atStart => exact ⟨n, 0, rfl, by omega, by omega, by omega, by omega, rfl, hs⟩
        case round =>
          clear x0 x1 x2 x3 x4 x5 x6 x7 hs hn0 hn1
          obtain ⟨n, i, rfl, hn0, hn1, hi, hi4, rfl, hs⟩ := hrel
          (have x0 := hs.cell (j := 0) rfl; have x1 := hs.cell (j := 1) rfl; have x2 := hs.cell (j := 2) rfl; have x3 := hs.cell (j := 3) rfl; have x4 := hs.cell (j := 4) rfl; have x5 := hs.cell (j := 5) rfl; have x6 := hs.cell (j := 6) rfl; have x7 := hs.cell (j := 7) rfl)
          by_cases hlt : i < parents.length ∧ i < 400
          · obtain ⟨hlt, hlt4⟩ := hlt
            obtain ⟨rfl, c0⟩ := HC'.out i hlt
            have c0 := hs.keep c0
            have z3 := HZ'.out i hlt
            have q1 : decide ((i : Int) < 400) = true := decide_eq_true (by omega)
            have q2 : decide (i < 400) = true := decide_eq_true (by omega)
            generalize parents[i] = nme at *
            go_wp2_with (first | ((with_reducible show wpList _ _ _ _ _ _); refine wpl_want rfl ?_))
            go_roundw
            case rel => exact ⟨_, i + 1, rfl, by omega, by omega, by omega, by omega, by go_num, hs⟩
            case measure => simp [intOf]; omega
          · by_cases hp : i < parents.length
            · have q1 : decide ((i : Int) < 400) = false := decide_eq_false (by omega)
              have q2 : decide (i < 400) = false := decide_eq_false (by omega)
              clear hlt hi
              (have x0 := hs.cell (j := 0) rfl; have x1 := hs.cell (j := 1) rfl; have x2 := hs.cell (j := 2) rfl; have x3 := hs.cell (j := 3) rfl; have x4 := hs.cell (j := 4) rfl; have x5 := hs.cell (j := 5) rfl; have x6 := hs.cell (j := 6) rfl; have x7 := hs.cell (j := 7) rfl)
              by_cases f1 : items.length ≤ 400
              · have f1' : decide ((items.length : Int) ≤ 400) = true := decide_eq_true (by omega)
                by_cases f2 : parents.length ≤ 400
                · have f2' : decide ((parents.length : Int) ≤ 400) = true := decide_eq_true (by omega)
                  by_cases f3 : n ≤ 30000
                  · have f3' : decide (n ≤ 30000) = true := decide_eq_true f3
                    by_cases f4 : data.length ≤ 30000
                    · have f4' : decide ((data.length : Int) ≤ 30000) = true := decide_eq_true (by omega)
                      by_cases f5 : tree.size ≤ 30000
                      · have f5' : decide ((tree.size : Int) ≤ 30000) = true := decide_eq_true (by omega)
                        by_cases f6 : msg.size ≤ 30000
                        · have f6' : decide ((msg.size : Int) ≤ 30000) = true := decide_eq_true (by omega)
                          go_wp2_with (first | ((with_reducible show wpList _ _ _ _ _ _); refine wpl_want rfl ?_))
                          go_ret
                          exact ⟨true, rfl, hs.bare, fun _ => ⟨f1, f2, f4, f5, f6⟩⟩
                        · have f6' : decide ((msg.size : Int) ≤ 30000) = false := decide_eq_false (by omega)
                          first | (exfalso; omega) | (go_wp2_with (first | ((with_reducible show wpList _ _ _ _ _ _); refine wpl_want rfl ?_)); go_ret; exact ⟨false, rfl, hs.bare, fun h => by cases h⟩)
                      · have f5' : decide ((tree.size : Int) ≤ 30000) = false := decide_eq_false (by omega)
                        first | (exfalso; omega) | (go_wp2_with (first | ((with_reducible show wpList _ _ _ _ _ _); refine wpl_want rfl ?_)); go_ret; exact ⟨false, rfl, hs.bare, fun h => by cases h⟩)
                    · have f4' : decide ((data.length : Int) ≤ 30000) = false := decide_eq_false (by omega)
                      first | (exfalso; omega) | (go_wp2_with (first | ((with_reducible show wpList _ _ _ _ _ _); refine wpl_want rfl ?_)); go_ret; exact ⟨false, rfl, hs.bare, fun h => by cases h⟩)
                  · have f3' : decide (n ≤ 30000) = false := decide_eq_false f3
                    first | (exfalso; omega) | (go_wp2_with (first | ((with_reducible show wpList _ _ _ _ _ _); refine wpl_want rfl ?_)); go_ret; exact ⟨false, rfl, hs.bare, fun h => by cases h⟩)
                · have f2' : decide ((parents.length : Int) ≤ 400) = false := decide_eq_false (by omega)
                  first | (exfalso; omega) | (go_wp2_with (first | ((with_reducible show wpList _ _ _ _ _ _); refine wpl_want rfl ?_)); go_ret; exact ⟨false, rfl, hs.bare, fun h => by cases h⟩)
              · have f1' : decide ((items.length : Int) ≤ 400) = false := decide_eq_false (by omega)
                first | (exfalso; omega) | (go_wp2_with (first | ((with_reducible show wpList _ _ _ _ _ _); refine wpl_want rfl ?_)); go_ret; exact ⟨false, rfl, hs.bare, fun h => by cases h⟩)
            · have q3 : decide ((i : Int) < (parents.length : Int)) = false := decide_eq_false (by omega)
              have q4 : decide (i < parents.length) = false := decide_eq_false (by omega)
              clear hlt hi
              (have x0 := hs.cell (j := 0) rfl; have x1 := hs.cell (j := 1) rfl; have x2 := hs.cell (j := 2) rfl; have x3 := hs.cell (j := 3) rfl; have x4 := hs.cell (j := 4) rfl; have x5 := hs.cell (j := 5) rfl; have x6 := hs.cell (j := 6) rfl; have x7 := hs.cell (j := 7) rfl)
              by_cases f1 : items.length ≤ 400
              · have f1' : decide ((items.length : Int) ≤ 400) = true := decide_eq_true (by omega)
                by_cases f2 : parents.length ≤ 400
                · have f2' : decide ((parents.length : Int) ≤ 400) = true := decide_eq_true (by omega)
                  by_cases f3 : n ≤ 30000
                  · have f3' : decide (n ≤ 30000) = true := decide_eq_true f3
                    by_cases f4 : data.length ≤ 30000
                    · have f4' : decide ((data.length : Int) ≤ 30000) = true := decide_eq_true (by omega)
                      by_cases f5 : tree.size ≤ 30000
                      · have f5' : decide ((tree.size : Int) ≤ 30000) = true := decide_eq_true (by omega)
                        by_cases f6 : msg.size ≤ 30000
                        · have f6' : decide ((msg.size : Int) ≤ 30000) = true := decide_eq_true (by omega)
                          go_wp2_with (first | ((with_reducible show wpList _ _ _ _ _ _); refine wpl_want rfl ?_))
                          go_ret
                          exact ⟨true, rfl, hs.bare, fun _ => ⟨f1, f2, f4, f5, f6⟩⟩
                        · have f6' : decide ((msg.size : Int) ≤ 30000) = false := decide_eq_false (by omega)
                          first | (exfalso; omega) | (go_wp2_with (first | ((with_reducible show wpList _ _ _ _ _ _); refine wpl_want rfl ?_)); go_ret; exact ⟨false, rfl, hs.bare, fun h => by cases h⟩)
                      · have f5' : decide ((tree.size : Int) ≤ 30000) = false := decide_eq_false (by omega)
                        first | (exfalso; omega) | (go_wp2_with (first | ((with_reducible show wpList _ _ _ _ _ _); refine wpl_want rfl ?_)); go_ret; exact ⟨false, rfl, hs.bare, fun h => by cases h⟩)
                    · have f4' : decide ((data.length : Int) ≤ 30000) = false := decide_eq_false (by omega)
                      first | (exfalso; omega) | (go_wp2_with (first | ((with_reducible show wpList _ _ _ _ _ _); refine wpl_want rfl ?_)); go_ret; exact ⟨false, rfl, hs.bare, fun h => by cases h⟩)
                  · have f3' : decide (n ≤ 30000) = false := decide_eq_false f3
                    first | (exfalso; omega) | (go_wp2_with (first | ((with_reducible show wpList _ _ _ _ _ _); refine wpl_want rfl ?_)); go_ret; exact ⟨false, rfl, hs.bare, fun h => by cases h⟩)
                · have f2' : decide ((parents.length : Int) ≤ 400) = false := decide_eq_false (by omega)
                  first | (exfalso; omega) | (go_wp2_with (first | ((with_reducible show wpList _ _ _ _ _ _); refine wpl_want rfl ?_)); go_ret; exact ⟨false, rfl, hs.bare, fun h => by cases h⟩)
              · have f1' : decide ((items.length : Int) ≤ 400) = false := decide_eq_false (by omega)
                first | (exfalso; omega) | (go_wp2_with (first | ((with_reducible show wpList _ _ _ _ _ _); refine wpl_want rfl ?_)); go_ret; exact ⟨false, rfl, hs.bare, fun h => by cases h⟩)
      · have q3 : decide ((i : Int) < (items.length : Int)) = false := decide_eq_false (by omega)
        have q4 : decide (i < items.length) = false := decide_eq_false (by omega)
        clear hlt hi
        go_wp2_with (first | ((with_reducible show wpList _ _ _ _ _ _); refine wpl_want rfl ?_))
        go_loopw [3, 5] (fun x y wr => ∃ (n : Int) (i : Nat), x = .int .i64 n ∧ 0 ≤ n ∧ n ≤ 120000 ∧ i ≤ parents.length ∧ i ≤ 400 ∧ y = .int .i64 i ∧ St w wr [(⟨.slice (some ⟨gx, 0, none⟩) 1 1, 26, 8, 1, [.int .i64 kind, .slice d1 data.length d2, .slice i1 items.length i2, .string tree, .slice p1 parents.length p2, .int .i64 stamp, .int .i64 author, .string msg]⟩ : Row)] []) (fun _ y _ => parents.length - (intOf y).toNat)
        case atStart => exact ⟨n, 0, rfl, by omega, by omega, by omega, by omega, rfl, hs⟩
        case round =>
          clear x0 x1 x2 x3 x4 x5 x6 x7 hs hn0 hn1
          obtain ⟨n, i, rfl, hn0, hn1, hi, hi4, rfl, hs⟩ := hrel
          (have x0 := hs.cell (j := 0) rfl; have x1 := hs.cell (j := 1) rfl; have x2 := hs.cell (j := 2) rfl; have x3 := hs.cell (j := 3) rfl; have x4 := hs.cell (j := 4) rfl; have x5 := hs.cell (j := 5) rfl; have x6 := hs.cell (j := 6) rfl; have x7 := hs.cell (j := 7) rfl)
          by_cases hlt : i < parents.length ∧ i < 400
          · obtain ⟨hlt, hlt4⟩ := hlt
            obtain ⟨rfl, c0⟩ := HC'.out i hlt
            have c0 := hs.keep c0
            have z3 := HZ'.out i hlt
            have q1 : decide ((i : Int) < 400) = true := decide_eq_true (by omega)
            have q2 : decide (i < 400) = true := decide_eq_true (by omega)
            generalize parents[i] = nme at *
            go_wp2_with (first | ((with_reducible show wpList _ _ _ _ _ _); refine wpl_want rfl ?_))
            go_roundw
            case rel => exact ⟨_, i + 1, rfl, by omega, by omega, by omega, by omega, by go_num, hs⟩
            case measure => simp [intOf]; omega
          · by_cases hp : i < parents.length
            · have q1 : decide ((i : Int) < 400) = false := decide_eq_false (by omega)
              have q2 : decide (i < 400) = false := decide_eq_false (by omega)
              clear hlt hi
              (have x0 := hs.cell (j := 0) rfl; have x1 := hs.cell (j := 1) rfl; have x2 := hs.cell (j := 2) rfl; have x3 := hs.cell (j := 3) rfl; have x4 := hs.cell (j := 4) rfl; have x5 := hs.cell (j := 5) rfl; have x6 := hs.cell (j := 6) rfl; have x7 := hs.cell (j := 7) rfl)
              by_cases f1 : items.length ≤ 400
              · have f1' : decide ((items.length : Int) ≤ 400) = true := decide_eq_true (by omega)
                by_cases f2 : parents.length ≤ 400
                · have f2' : decide ((parents.length : Int) ≤ 400) = true := decide_eq_true (by omega)
                  by_cases f3 : n ≤ 30000
                  · have f3' : decide (n ≤ 30000) = true := decide_eq_true f3
                    by_cases f4 : data.length ≤ 30000
                    · have f4' : decide ((data.length : Int) ≤ 30000) = true := decide_eq_true (by omega)
                      by_cases f5 : tree.size ≤ 30000
                      · have f5' : decide ((tree.size : Int) ≤ 30000) = true := decide_eq_true (by omega)
                        by_cases f6 : msg.size ≤ 30000
                        · have f6' : decide ((msg.size : Int) ≤ 30000) = true := decide_eq_true (by omega)
                          go_wp2_with (first | ((with_reducible show wpList _ _ _ _ _ _); refine wpl_want rfl ?_))
                          go_ret
                          exact ⟨true, rfl, hs.bare, fun _ => ⟨f1, f2, f4, f5, f6⟩⟩
                        · have f6' : decide ((msg.size : Int) ≤ 30000) = false := decide_eq_false (by omega)
                          first | (exfalso; omega) | (go_wp2_with (first | ((with_reducible show wpList _ _ _ _ _ _); refine wpl_want rfl ?_)); go_ret; exact ⟨false, rfl, hs.bare, fun h => by cases h⟩)
                      · have f5' : decide ((tree.size : Int) ≤ 30000) = false := decide_eq_false (by omega)
                        first | (exfalso; omega) | (go_wp2_with (first | ((with_reducible show wpList _ _ _ _ _ _); refine wpl_want rfl ?_)); go_ret; exact ⟨false, rfl, hs.bare, fun h => by cases h⟩)
                    · have f4' : decide ((data.length : Int) ≤ 30000) = false := decide_eq_false (by omega)
                      first | (exfalso; omega) | (go_wp2_with (first | ((with_reducible show wpList _ _ _ _ _ _); refine wpl_want rfl ?_)); go_ret; exact ⟨false, rfl, hs.bare, fun h => by cases h⟩)
                  · have f3' : decide (n ≤ 30000) = false := decide_eq_false f3
                    first | (exfalso; omega) | (go_wp2_with (first | ((with_reducible show wpList _ _ _ _ _ _); refine wpl_want rfl ?_)); go_ret; exact ⟨false, rfl, hs.bare, fun h => by cases h⟩)
                · have f2' : decide ((parents.length : Int) ≤ 400) = false := decide_eq_false (by omega)
                  first | (exfalso; omega) | (go_wp2_with (first | ((with_reducible show wpList _ _ _ _ _ _); refine wpl_want rfl ?_)); go_ret; exact ⟨false, rfl, hs.bare, fun h => by cases h⟩)
              · have f1' : decide ((items.length : Int) ≤ 400) = false := decide_eq_false (by omega)
                first | (exfalso; omega) | (go_wp2_with (first | ((with_reducible show wpList _ _ _ _ _ _); refine wpl_want rfl ?_)); go_ret; exact ⟨false, rfl, hs.bare, fun h => by cases h⟩)
            · have q3 : decide ((i : Int) < (parents.length : Int)) = false := decide_eq_false (by omega)
              have q4 : decide (i < parents.length) = false := decide_eq_false (by omega)
              clear hlt hi
              (have x0 := hs.cell (j := 0) rfl; have x1 := hs.cell (j := 1) rfl; have x2 := hs.cell (j := 2) rfl; have x3 := hs.cell (j := 3) rfl; have x4 := hs.cell (j := 4) rfl; have x5 := hs.cell (j := 5) rfl; have x6 := hs.cell (j := 6) rfl; have x7 := hs.cell (j := 7) rfl)
              by_cases f1 : items.length ≤ 400
              · have f1' : decide ((items.length : Int) ≤ 400) = true := decide_eq_true (by omega)
                by_cases f2 : parents.length ≤ 400
                · have f2' : decide ((parents.length : Int) ≤ 400) = true := decide_eq_true (by omega)
                  by_cases f3 : n ≤ 30000
                  · have f3' : decide (n ≤ 30000) = true := decide_eq_true f3
                    by_cases f4 : data.length ≤ 30000
                    · have f4' : decide ((data.length : Int) ≤ 30000) = true := decide_eq_true (by omega)
                      by_cases f5 : tree.size ≤ 30000
                      · have f5' : decide ((tree.size : Int) ≤ 30000) = true := decide_eq_true (by omega)
                        by_cases f6 : msg.size ≤ 30000
                        · have f6' : decide ((msg.size : Int) ≤ 30000) = true := decide_eq_true (by omega)
                          go_wp2_with (first | ((with_reducible show wpList _ _ _ _ _ _); refine wpl_want rfl ?_))
                          go_ret
                          exact ⟨true, rfl, hs.bare, fun _ => ⟨f1, f2, f4, f5, f6⟩⟩
                        · have f6' : decide ((msg.size : Int) ≤ 30000) = false := decide_eq_false (by omega)
                          first | (exfalso; omega) | (go_wp2_with (first | ((with_reducible show wpList _ _ _ _ _ _); refine wpl_want rfl ?_)); go_ret; exact ⟨false, rfl, hs.bare, fun h => by cases h⟩)
                      · have f5' : decide ((tree.size : Int) ≤ 30000) = false := decide_eq_false (by omega)
                        first | (exfalso; omega) | (go_wp2_with (first | ((with_reducible show wpList _ _ _ _ _ _); refine wpl_want rfl ?_)); go_ret; exact ⟨false, rfl, hs.bare, fun h => by cases h⟩)
                    · have f4' : decide ((data.length : Int) ≤ 30000) = false := decide_eq_false (by omega)
                      first | (exfalso; omega) | (go_wp2_with (first | ((with_reducible show wpList _ _ _ _ _ _); refine wpl_want rfl ?_)); go_ret; exact ⟨false, rfl, hs.bare, fun h => by cases h⟩)
                  · have f3' : decide (n ≤ 30000) = false := decide_eq_false f3
                    first | (exfalso; omega) | (go_wp2_with (first | ((with_reducible show wpList _ _ _ _ _ _); refine wpl_want rfl ?_)); go_ret; exact ⟨false, rfl, hs.bare, fun h => by cases h⟩)
                · have f2' : decide ((parents.length : Int) ≤ 400) = false := decide_eq_false (by omega)
                  first | (exfalso; omega) | (go_wp2_with (first | ((with_reducible show wpList _ _ _ _ _ _); refine wpl_want rfl ?_)); go_ret; exact ⟨false, rfl, hs.bare, fun h => by cases h⟩)
              · have f1' : decide ((items.length : Int) ≤ 400) = false := decide_eq_false (by omega)
                first | (exfalso; omega) | (go_wp2_with (first | ((with_reducible show wpList _ _ _ _ _ _); refine wpl_want rfl ?_)); go_ret; exact ⟨false, rfl, hs.bare, fun h => by cases h⟩)
end Go.Proofs.Ytlfdnlomlbbicaa

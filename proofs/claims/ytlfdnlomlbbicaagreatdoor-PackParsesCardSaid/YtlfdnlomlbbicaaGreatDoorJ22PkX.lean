/- The walk of pack.Write. The document's turn and constants; the builtin copy over a row. -/
import Derived.Test.YtlfdnlomlbbicaaGreatDoorJ18ObjA
import Derived.Test.YtlfdnlomlbbicaaGreatDoorJ21ShaO
import Derived.Test.YtlfdnlomlbbicaaGreatDoorShaM
import Derived.Test.YtlfdnlomlbbicaaGreatDoorShaT
namespace Go.Mx
open Go Go.RowKit
/-- The depths' slice while a pack is made: what is known, and zeros. -/
def dD (pre : List (List UInt8 × Nat)) (n : Nat) : List Int := pre.map (fun p => (p.2 : Int)) ++ List.replicate (n - pre.length) 0
theorem dD_len {pre : List (List UInt8 × Nat)} {n : Nat} (h : pre.length ≤ n) : (dD pre n).length = n := by
  simp only [dD, List.length_append, List.length_map, List.length_replicate]
  omega
theorem dD_get {pre : List (List UInt8 × Nat)} {n j : Nat} {p : List UInt8 × Nat} (h : pre[j]? = some p) : (dD pre n)[j]? = some (p.2 : Int) := by
  obtain ⟨hj, rfl⟩ := List.getElem?_eq_some_iff.1 h
  unfold dD
  rw [List.getElem?_append_left (by simpa using hj), List.getElem?_map, h]
  rfl
theorem dD_rep {pre : List (List UInt8 × Nat)} {n : Nat} (x : List UInt8) (d : Nat) : dD (pre ++ [(x, d)]) n = pre.map (fun p => (p.2 : Int)) ++ (d : Int) :: List.replicate (n - pre.length - 1) 0 := by
  unfold dD
  rw [List.map_append, List.append_assoc, List.length_append]
  rfl
theorem dD_zero {pre : List (List UInt8 × Nat)} {n : Nat} (x : List UInt8) (h : pre.length < n) : dD (pre ++ [(x, 0)]) n = dD pre n := by
  rw [dD_rep x 0, dD, show n - pre.length = (n - pre.length - 1) + 1 by omega, List.replicate_succ]
  rfl
theorem dD_put {pre : List (List UInt8 × Nat)} {n : Nat} (x : List UInt8) (d : Nat) (h : pre.length < n) : (is (dD pre n)).take pre.length ++ [Value.int .i64 (d : Int)] ++ (is (dD pre n)).drop (pre.length + 1) = is (dD (pre ++ [(x, d)]) n) := by
  obtain ⟨m, hm⟩ : ∃ m, n - pre.length = m + 1 := ⟨n - pre.length - 1, by omega⟩
  rw [dD_rep x d, dD, hm, List.replicate_succ, Nat.add_sub_cancel]
  have e2 : (is (pre.map (fun p => (p.2 : Int)))).length = pre.length := by rw [is, List.length_map, List.length_map]
  have e3 : is (pre.map (fun p => (p.2 : Int)) ++ 0 :: List.replicate m 0) = is (pre.map (fun p => (p.2 : Int))) ++ ([.int .i64 0] ++ is (List.replicate m 0)) := by simp [is]
  have e4 : is (pre.map (fun p => (p.2 : Int)) ++ (d : Int) :: List.replicate m 0) = is (pre.map (fun p => (p.2 : Int))) ++ ([.int .i64 (d : Int)] ++ is (List.replicate m 0)) := by simp [is]
  rw [e3, e4, ← e2, List.take_left, ← List.append_assoc (is _) [_] (is _), List.drop_left' (by simp), ← List.append_assoc]
theorem St.madeM_at {w0 w : World} {R : List Row} {Q : List Rd} (h : St w0 w R Q) (cells : Array Value) (e : TypeId) (size n g : Nat) (hn : cells.size = n * size) (hm : n ≤ maxLen) (hg : g = w.heap.size) :
    St w0 (w.alloc (.cells cells e (cells.size, cells.size + 1))) (⟨.slice (some ⟨g, 0, none⟩) n n, e, size, n, cells.toList⟩ :: R) Q := by
  subst hg; exact h.madeM cells e size n hn hm
def hdP (n : Nat) : List UInt8 := [77, 80, 49] ++ putL n
def bodyP (l : List (List UInt8)) (i : Nat) : List UInt8 := hdP l.length ++ (pkAll (l.take i)).1
theorem bodyP_0 (l : List (List UInt8)) : bodyP l 0 = hdP l.length := by unfold bodyP; rw [List.take_zero]; exact List.append_nil _
theorem bodyP_end (l : List (List UInt8)) : bodyP l l.length = pkB l := by unfold bodyP; rw [List.take_length]; rfl
theorem bodyP_step {l : List (List UInt8)} {i : Nat} (h : i < l.length) : bodyP l (i + 1) = bodyP l i ++ (entP (pkAll (l.take i)).2 l[i]).1 := by
  unfold bodyP
  rw [pk_take h, pkStep, List.append_assoc]
theorem sum_le' {m : Nat} : ∀ {l : List (List UInt8)}, (∀ x ∈ l, x.length ≤ m) → (l.map List.length).sum ≤ m * l.length
  | [], _ => by simp
  | x :: l, h => by
    have h1 := sum_le' (l := l) fun y hy => h y (List.mem_cons_of_mem _ hy)
    have h2 := h x (List.mem_cons_self ..)
    simp only [List.map_cons, List.sum_cons, List.length_cons, Nat.mul_add]
    omega
theorem bodyP_len {l : List (List UInt8)} (hx : ∀ x ∈ l, x.length ≤ 2000) (hl : l.length ≤ 127) (i : Nat) : (bodyP l i).length ≤ 260000 := by
  have h0 : (l.take i).length ≤ 127 := by rw [List.length_take]; omega
  have h1 := pk_size (l := l.take i) (fun x h => hx x (List.mem_of_mem_take h)) h0
  have h2 := sum_le' (l := l.take i) (m := 2000) (fun x h => hx x (List.mem_of_mem_take h))
  have h3 := putL_1 hl
  simp only [bodyP, hdP, List.length_append, List.length_cons, List.length_nil]
  have h4 : 2000 * (l.take i).length ≤ 2000 * 127 := Nat.mul_le_mul_left _ h0
  omega
end Go.Mx
namespace Go.Proofs.YtlfdnlomlbbicaaGreatDoor
open Go.RowKit Go.Mx
def PkwPost (l : List (List UInt8)) (w : World) (e : Ending) (w' : World) : Prop :=
  (mayE l = 0 ∧ ∃ v, e = .returned (.tuple #[v, .int .i64 0]) ∧ St w w' [⟨v, 5, 1, (packL l).length, bs (packL l)⟩] []) ∨ (mayE l = 4 ∧ e = .returned (.tuple #[.slice none 0 0, .int .i64 4]) ∧ St w w' [] [])
abbrev gdr (g n : Nat) (D : List Int) : Row := ⟨.slice (some ⟨g, 0, none⟩) n n, 3, 1, n, is D⟩
abbrev pbr (v : Value) (l : List UInt8) : Row := ⟨v, 5, 1, l.length, bs l⟩

set_option maxRecDepth 100000 in
set_option maxHeartbeats 4000000 in
theorem pwrite_any (v : Value) (l : List (List UInt8)) (w : World) (hv : LL w v l) (hl : l.length ≤ 127) (hz : ∀ x ∈ l, x.length ≤ 2000) (hL : Laid w) (hI : IndexOk w) :
    Calls Tryz.prog 8 #[v] w (PkwPost l w) := by
  have HV := Mx.hid hv
  have HM := Mx.hid (pmay_any v l w hv (by omega) (fun x hx => by have := hz x hx; omega))
  obtain ⟨ao, cap, blk, off, us, rfl, h1, h2, hc, hs⟩ := hv.at
  have HC := Mx.hid (fun k hk => (⟨(hc k hk).1, (hc k hk).2⟩ : ao = some ⟨blk, off, none⟩ ∧ w.cell? ⟨blk, off + k, none⟩ = some (us k)))
  have HS := Mx.hid hs
  have HZ := Mx.hid (fun (k : Nat) (hk : k < l.length) => hz l[k] (List.getElem_mem hk))
  have HB := Mx.hid (bodyP_len hz hl)
  have HL := Mx.hid (fun w' (h : St w w' [] []) => hL.keep h)
  have HI := Mx.hid (fun w' (h : St w w' [] []) => hI.keep h)
  clear hv hc hs hz hL hI
  by_cases hd : ∀ x ∈ l, (decO x).2 = 0
  · rw [mayE_0 hd] at HM
    have HE := Mx.hid (mayE_0 hd)
    have HNE := Mx.hid (show ∀ x ∈ l, x ≠ [] from fun x hx h => by have := hd x hx; rw [h] at this; cases this)
    have hp1 := putL_1 hl
    obtain ⟨C, hC, hmk⟩ := run_make_rep (P := Tryz.prog) (t := 54) (e := 3) (z := .int .i64 0) (bytes := 8) Tryz.underlying54 (by kernel_rfl) rfl (by omega) l.length (by omega)
    have hmk2 := hmk (l.length : Int) rfl
    have hCs : C.size = l.length * 1 := by have := congrArg List.length hC; simpa using this
    have HCD := Mx.hid (show C.toList = is (dD [] l.length) by rw [hC]; simp [dD, is])
    clear hmk hC hd
    have kc := fun (w : World) (C : Array Value) (n c : Nat) => Lib.run_convert_bytes_const (P := Tryz.prog) w 25 5 C n c Tryz.underlying25 Tryz.underlying5
    go_enter Tryz.func8, Tryz.ntmps8
    go_wp2_with fail
    refine HM.out.mono ?_
    rintro e w1 ⟨rfl, hk⟩
    clear HM
    have hq := hk.madeM_at #[.int .u8 77, .int .u8 80, .int .u8 49] 5 1 3 w1.heap.size rfl (by simp [maxLen]) rfl
    go_wp2_with fail
    refine (pnumber_app w _ [] [] _ _ 3 l.length hq (by omega) (by omega)).mono ?_
    rintro e w2 ⟨v2, rfl, hs2⟩
    replace hs2 := hs2.cast (n' := (bodyP l 0).length) (xs' := bs (bodyP l 0)) (by rw [bodyP_0, hdP, List.length_append]; rfl) (by rw [bodyP_0, hdP, bs_app]; rfl)
    have hs3 := ((hs2.madeAt C 3 1 l.length w2.heap.size hCs (by unfold maxLen; omega) rfl).cast rfl HCD.out).swap
    have HS3 := Mx.hid hs3
    clear hq hk hs2 hs3 kc
    go_wp2_with fail
    clear hmk2
    generalize w2.alloc _ = w3 at *
    generalize w2.heap.size = gd at *
    go_loopw [5, 26] (fun x y wr => ∃ i : Nat, y = .int .i64 i ∧ i ≤ l.length ∧ St w wr [pbr x (bodyP l i), gdr gd l.length (dD (pkAll (l.take i)).2 l.length)] []) (fun _ y _ => l.length - (intOf y).toNat)
    case atStart => exact ⟨0, rfl, by omega, HS3.out⟩
    case round =>
      clear HS3
      obtain ⟨i, rfl, hi, hs⟩ := hrel
      by_cases hlt : i < l.length
      · obtain ⟨rfl, a0⟩ := HC.out i hlt
        have hx := HS.out i hlt
        obtain ⟨xo, xc, hu, _⟩ := hx.form
        have hxz := HZ.out i hlt
        replace a0 := hs.keep a0
        rw [hu] at a0 hx
        have hbl := HB.out i
        have hst := bodyP_step hlt
        have hpk := pk_take hlt
        have hpl := pk_len (l.take i)
        have hpf := pk_fst (l.take i)
        have HN := Mx.hid (nearest_any _ l (.slice (some ⟨gd, 0, none⟩) l.length l.length) (dD (pkAll (l.take i)).2 l.length) i (pkAll (l.take i)).2 wr (LL.old hs HV.out) (by rw [dD_len (by rw [hpl, List.length_take]; omega)]; exact hs.sl1) hlt (by omega) (dD_len (by rw [hpl, List.length_take]; omega)) HNE.out hpf (fun j p h => dD_get h))
        have hw : entP (pkAll (l.take i)).2 l[i] = (whP l[i], 0) → bodyP l (i + 1) = bodyP l i ++ (0 :: (putL l[i].length ++ l[i])) ∧ dD (pkAll (l.take (i + 1))).2 l.length = dD (pkAll (l.take i)).2 l.length   := fun h => by
          rw [hst, hpk, pkStep, h]
          exact ⟨rfl, dD_zero _ (by rw [hpl, List.length_take]; omega)⟩
        have HW := Mx.hid hw
        have hii : (i : Int) < (l.length : Int) := by omega
        have hput := putL_2 hxz
        by_cases h0 : nearN (pkAll (l.take i)).2 l[i] = 0
        · obtain ⟨e1, e2⟩ := HW.out (ent_0 h0)
          rw [h0] at HN
          have H1 := Mx.hid e1
          have H2 := Mx.hid e2
          clear hst hpk hpl hpf hw HW h0 e1 e2
          generalize hO : bodyP l i = O at *
          generalize dD (pkAll (l.take i)).2 l.length = D at *
          generalize l[i] = x at *
          go_wp2_with fail
          refine HN.out.mono ?_
          rintro e w4 ⟨rfl, hk⟩
          replace hs := hs.call0 hk
          go_wp2_with (at_builtin; refine wpl_app rfl _ _ 25 rfl Tryz.elU8 (hs.alloc _) rfl (by exact Sl.one _ _ _) (by intro u hu; simp at hu; subst hu; rfl) (by omega) ?_; intro v6 w6 hs6 _)
          refine (pnumber_app w w6 _ _ _ _ _ x.length hs6 (by omega) (by omega)).mono ?_
          rintro e w7 ⟨v7, rfl, hs7⟩
          generalize hla : (putL x.length).length = pa at *
          go_wp2_with (at_builtin; refine wpl_app rfl _ _ 25 rfl Tryz.elU8 hs7 rfl (by exact (hs7.old hx)) (bs_one _) (by omega) ?_; intro v8 w8 hs8 _)
          go_roundw
          case rel => exact ⟨i + 1, by go_num, by omega, (by rw [H1.out, H2.out]; exact hs8.cast (by simp only [List.length_append, List.length_cons, hla]; omega) (by simp only [bs_app, bs_cons]; simp))⟩
          case measure => simp [intOf]; omega
        · obtain ⟨⟨pb, pd⟩, hpp, _, hp8⟩ := nearN_ok h0
          have hnle := nearN_le (pkAll (l.take i)).2 l[i]
          have hE1 := fun (hm : (makeR pb l[i]).length < l[i].length) => ent_1 rfl h0 hpp hm
          have hE2 := fun (hm : ¬ (makeR pb l[i]).length < l[i].length) => HW.out (ent_2 rfl h0 hpp hm)
          have hpl' : (pkAll (l.take i)).2.length = i := by rw [hpl, List.length_take]; omega
          rw [hpl'] at hpp hnle
          obtain ⟨K, hK⟩ : ∃ K, i - nearN (pkAll (l.take i)).2 l[i] = K := ⟨_, rfl⟩
          rw [hK] at hpp
          have hKi : K < i := by omega
          have hKl : K < l.length := by omega
          have hk : (i : Int) - (nearN (pkAll (l.take i)).2 l[i] : Int) = (K : Int) := by omega
          have hpb : pb = l[K] := by
            have : ((pkAll (l.take i)).2.map Prod.fst)[K]? = (l.take i)[K]? := by rw [hpf]
            rw [List.getElem?_map, hpp, List.getElem?_take, if_pos hKi, List.getElem?_eq_getElem hKl] at this
            simpa using this
          subst hpb
          have hdk := dD_get (n := l.length) hpp
          have HD2 := Mx.hid (dD_put l[i] (pd + 1) (show (pkAll (l.take i)).2.length < l.length by omega))
          rw [hpl'] at HD2
          have HST := Mx.hid (And.intro hst hpk)
          obtain ⟨_, b0⟩ := HC.out K hKl
          have hy := HS.out K hKl
          obtain ⟨yo, yc, hu2, _⟩ := hy.form
          have hyz := HZ.out K hKl
          have c0 : wr.cell? ⟨gd, K, none⟩ = some (.int .i64 (pd : Int)) := hs.rcell (List.mem_cons_of_mem _ (List.mem_cons_self ..)) (by rw [is, List.getElem?_map, hdk]; rfl)
          have HC0 := Mx.hid (show (is (dD (pkAll (l.take i)).2 l.length))[K]? = some (.int .i64 (pd : Int)) by rw [is, List.getElem?_map, hdk]; rfl)
          have hlD : i < (is (dD (pkAll (l.take i)).2 l.length)).length := by rw [is, List.length_map, dD_len (by omega)]; exact hlt
          have hKI : (K : Int) < (l.length : Int) := by omega
          have hp8' : (pd : Int) ≤ 8 := by simp only at hp8; omega
          have hN1 : 1 ≤ nearN (pkAll (l.take i)).2 l[i] := by omega
          have hN2 : nearN (pkAll (l.take i)).2 l[i] ≤ 127 := by omega
          have hp1' := putL_1 hN2
          clear hst hpk hpl hpf hw HW h0 hpp hdk hpl' hK hp8
          generalize hO : bodyP l i = O at *
          generalize dD (pkAll (l.take i)).2 l.length = D at *
          replace b0 := hs.keep b0
          rw [hu2] at b0 hy
          generalize nearN (pkAll (l.take i)).2 l[i] = N at *
          generalize l[i] = x at *
          generalize l[K] = y at *
          have hN1' : (0 : Int) < (N : Int) := by omega
          go_wp2_with fail
          refine HN.out.mono ?_
          rintro e w4 ⟨rfl, hk⟩
          replace b0 := hk.keep b0
          replace hs := hs.call0 hk
          have HMK := Mx.hid (make_any w4 _ _ y x (hs.old hy) (hs.old hx) (by omega) (by omega) (HI.out _ hs.bare))
          go_wp2_with fail
          refine HMK.out.mono ?_
          unfold MakePost
          rintro e w5 ⟨vm, rfl, hk5⟩
          replace hs := hs.call1 hk5
          obtain ⟨mo, mc, rfl, _⟩ := id hk5.sl0
          clear HMK hk5 hk HN
          generalize makeR y x = m at *
          by_cases hm : m.length < x.length
          · have hE := hE1 hm
            have hm' : decide (m.length < x.length) = true := decide_eq_true (by omega)
            have H1 := Mx.hid hE
            have hmz : m.length ≤ 2000 := by omega
            have hput2 := putL_2 hmz
            clear hE1 hE2 hE hm
            have hsA := hs.perm (List.perm_append_comm (l₁ := [_, _]) (l₂ := [_]))
            have c1 : w5.cell? ⟨gd, K, none⟩ = some (.int .i64 (pd : Int)) := hs.rcell (List.mem_cons_of_mem _ (List.mem_cons_of_mem _ (List.mem_cons_self ..))) HC0.out
            go_wp2_with (first | (((with_reducible show wpList _ _ _ _ _ _); refine wpl_store1 rfl 3 _ _ rfl hsA (i) rfl (.int .i64 ((pd : Int) + 1)) rfl rfl (by kernel_rfl) hlD rfl ?_; intro w6 hsB); have hsC := hsB.perm (List.perm_append_comm (l₁ := [_, _]) (l₂ := [_]))) | (at_builtin; refine wpl_app rfl _ _ 25 rfl Tryz.elU8 (hsC.alloc _) rfl (by exact Sl.one _ _ _) (by intro u hu; simp at hu; subst hu; rfl) (by omega) ?_; intro v7 w7 hs7 _))
            refine (pnumber_app w w7 _ _ _ _ _ N hs7 (by omega) (by omega)).mono ?_
            rintro e w8 ⟨v8, rfl, hs8⟩
            generalize hla : (putL N).length = pa at *
            go_wp2_with fail
            refine (pnumber_app w w8 _ _ _ _ _ m.length hs8 (by omega) (by omega)).mono ?_
            rintro e w9 ⟨v9, rfl, hs9⟩
            generalize hlb : (putL m.length).length = pc at *
            have hmv : Sl w9 1 (.slice mo m.length mc) m.length (bs m) := hs9.sl (r := ⟨.slice mo m.length mc, 5, 1, m.length, bs m⟩) (by simp)
            go_wp2_with (at_builtin; refine wpl_app rfl _ _ 25 rfl Tryz.elU8 hs9 rfl (by exact hmv) (bs_one _) (by omega) ?_; intro vA wA hsD _)
            go_roundw
            case rel => exact ⟨i + 1, by go_num, by omega, (by
              rw [HST.out.1, HST.out.2, pkStep, H1.out]
              exact ((hsD.cast (n' := (O ++ (1 :: (putL N ++ (putL m.length ++ m)))).length) (xs' := bs (O ++ (1 :: (putL N ++ (putL m.length ++ m))))) (by simp only [List.length_append, List.length_cons, hla, hlb]; omega) (by simp only [bs_app, bs_cons]; simp)).swap.cast rfl HD2.out).swap.sub (.cons_cons _ (.cons_cons _ (.cons _ .slnil))) (by simp))⟩
            case measure => simp [intOf]; omega
          · obtain ⟨e1, e2⟩ := hE2 hm
            have H1 := Mx.hid e1
            have H2 := Mx.hid e2
            have hm' : decide (m.length < x.length) = false := decide_eq_false (by omega)
            clear hE1 hE2 e1 e2 hm
            replace hs := hs.tail
            go_wp2_with (at_builtin; refine wpl_app rfl _ _ 25 rfl Tryz.elU8 (hs.alloc _) rfl (by exact Sl.one _ _ _) (by intro u hu; simp at hu; subst hu; rfl) (by omega) ?_; intro v6 w6 hs6 _)
            refine (pnumber_app w w6 _ _ _ _ _ x.length hs6 (by omega) (by omega)).mono ?_
            rintro e w7 ⟨v7, rfl, hs7⟩
            generalize hla : (putL x.length).length = pa at *
            go_wp2_with (at_builtin; refine wpl_app rfl _ _ 25 rfl Tryz.elU8 hs7 rfl (by exact (hs7.old hx)) (bs_one _) (by omega) ?_; intro v8 w8 hs8 _)
            go_roundw
            case rel => exact ⟨i + 1, by go_num, by omega, (by rw [H1.out, H2.out]; exact hs8.cast (by simp only [List.length_append, List.length_cons, hla]; omega) (by simp only [bs_app, bs_cons]; simp))⟩
            case measure => simp [intOf]; omega
      · obtain rfl : i = l.length := by omega
        have hbe := bodyP_end l
        rw [hbe] at hs
        have hbl := HB.out l.length
        rw [hbe] at hbl
        have HPL := Mx.hid (show packL l = pkB l ++ sha (pkB l) from rfl)
        have hsl := sha_len (pkB l)
        generalize pkB l = O at *
        go_wp2_with fail
        refine (sum_any wr _ O hs.sl0 (by omega) (fun w' h => HL.out _ (hs.call0 h).bare)).mono ?_
        rintro e w4 ⟨v4, rfl, hk⟩
        have hk := hk.cast (n' := (sha O).length) (xs' := bs (sha O)) hsl.symm rfl
        have hs4 := (hs.call1 hk).swap
        generalize sha O = sh at *
        go_wp2_with (at_builtin; refine wpl_app rfl _ _ 25 rfl Tryz.elU8 hs4 rfl (by exact hk.sl0) (bs_one _) (by omega) ?_; intro v5 w5 hs5 _)
        go_ret2
        refine .inl ⟨HE.out, v5, rfl, ?_⟩
        rw [HPL.out]
        exact hs5.head.cast (by rw [List.length_append]) (by rw [bs_app])
  · have hE : mayE l = 4 := by unfold mayE; rw [if_neg hd]
    have HE := Mx.hid hE
    rw [hE] at HM
    clear hd hE
    go_enter Tryz.func8, Tryz.ntmps8
    go_wp2_with fail
    refine HM.out.mono ?_
    rintro e w1 ⟨rfl, hk⟩
    go_wp2_with fail
    go_ret2
    exact .inr ⟨HE.out, rfl, hk⟩
end Go.Proofs.YtlfdnlomlbbicaaGreatDoor

namespace Go.Mx
open Go Go.RowKit

/-- copy(dst, src), dst the head row from its place j on, src a slice that reads as cells and fits. -/
theorem wpl_copyS {P : Program} {w0 w : World} {R : List Row} {Qs : List Rd} {ops : Array Oper} {rest : List Oper} {o : Oper} {a : Act} {Q : Exit → Act → World → Prop} (hgd : o.guard = none) (d s : Operand) (dT sT : TypeId)
    (ho : o.op = .call { callee := .builtin .copy, args := #[d, s], argTypes := #[dT, sT] }) {elem : TypeId} (hu : P.underlying dT = some (.slice elem)) (hsz : (P.info? elem).map (·.size) = some 1)
    {g n cap : Nat} {e : TypeId} {size : Nat} {xs : List Value} (hst : St w0 w (⟨.slice (some ⟨g, 0, none⟩) n cap, e, size, n, xs⟩ :: R) Qs) (j dl dc : Nat) (hd : a.eval d = .slice (some ⟨g, j, none⟩) dl dc)
    {m : Nat} {cs : List Value} (hs : Sl w 1 (a.eval s) m cs) (hm : m ≤ dl) (hj : j + cs.length ≤ xs.length) (h1 : ∀ u ∈ cs, u.oneCell' = true)
    (h : ∀ w', St w0 w' (⟨.slice (some ⟨g, 0, none⟩) n cap, e, size, n, xs.take j ++ cs ++ xs.drop (j + cs.length)⟩ :: R) Qs → wpList P ops Q rest (a.put o.dst (goInt m)) w') : wpList P ops Q (o :: rest) a w := by
  refine wpList_plain hgd fun K hK => ?_
  obtain ⟨w', hr, h2⟩ := hst.store (P := P) j cs hj h1
  have hl := lenOf_sl (P := P) hs
  have hf := firstCells_sl (P := P) hs w rfl
  obtain ⟨i, hi, hiz⟩ := Option.map_eq_some_iff.1 hsz
  unfold Oper.wp execOp
  simp only [ho, resolve, invoke, builtin, Sem.run_bind, Sem.run_pure, Result.andThen_ok, List.map_toArray, List.map_cons, List.map_nil, hd]
  simp [Builtin.copy_, run_underlying hu, hl, sizeOf, typeInfo, hi, hiz, Nat.min_eq_left hm, hf, hr]
  exact hK _ _ (h w' h2)
end Go.Mx
namespace Go.Proofs.YtlfdnlomlbbicaaGreatDoor
open Go.RowKit Go.Mx

theorem turn2_any (x : U32) (w : World) :
    Calls Tryz.prog 47 #[.int .u32 (x.toNat : Int), .int .i64 2] w fun e w' => e = .returned (.int .u32 ((rotr x 2).toNat : Int)) ∧ ∃ n, w' = w.drewN n := by
  have h1 := w_shl x 30
  have h2 := w_shr x 2
  have h3 := w_or (x >>> 2) (x <<< 30)
  go_enter Tryz.func47, Tryz.ntmps47
  go_wp2_with fail
  go_quiet (fail)
  go_wp2_with fail
  go_ret
  rw [← h1, ← h2] at h3
  have h4 : rotr x 2 = (x >>> 2) ||| (x <<< 30) := rfl
  rw [h4]
  refine ⟨?_, _, rfl⟩
  first | exact congrArg (fun z => Ending.returned (.int .u32 z)) h3 | (simp; exact h3) | trace_state
theorem turn6_any (x : U32) (w : World) :
    Calls Tryz.prog 47 #[.int .u32 (x.toNat : Int), .int .i64 6] w fun e w' => e = .returned (.int .u32 ((rotr x 6).toNat : Int)) ∧ ∃ n, w' = w.drewN n := by
  have h1 := w_shl x 26
  have h2 := w_shr x 6
  have h3 := w_or (x >>> 6) (x <<< 26)
  go_enter Tryz.func47, Tryz.ntmps47
  go_wp2_with fail
  go_quiet (fail)
  go_wp2_with fail
  go_ret
  rw [← h1, ← h2] at h3
  have h4 : rotr x 6 = (x >>> 6) ||| (x <<< 26) := rfl
  rw [h4]
  refine ⟨?_, _, rfl⟩
  first | exact congrArg (fun z => Ending.returned (.int .u32 z)) h3 | (simp; exact h3) | trace_state
theorem turn7_any (x : U32) (w : World) :
    Calls Tryz.prog 47 #[.int .u32 (x.toNat : Int), .int .i64 7] w fun e w' => e = .returned (.int .u32 ((rotr x 7).toNat : Int)) ∧ ∃ n, w' = w.drewN n := by
  have h1 := w_shl x 25
  have h2 := w_shr x 7
  have h3 := w_or (x >>> 7) (x <<< 25)
  go_enter Tryz.func47, Tryz.ntmps47
  go_wp2_with fail
  go_quiet (fail)
  go_wp2_with fail
  go_ret
  rw [← h1, ← h2] at h3
  have h4 : rotr x 7 = (x >>> 7) ||| (x <<< 25) := rfl
  rw [h4]
  refine ⟨?_, _, rfl⟩
  first | exact congrArg (fun z => Ending.returned (.int .u32 z)) h3 | (simp; exact h3) | trace_state
theorem turn11_any (x : U32) (w : World) :
    Calls Tryz.prog 47 #[.int .u32 (x.toNat : Int), .int .i64 11] w fun e w' => e = .returned (.int .u32 ((rotr x 11).toNat : Int)) ∧ ∃ n, w' = w.drewN n := by
  have h1 := w_shl x 21
  have h2 := w_shr x 11
  have h3 := w_or (x >>> 11) (x <<< 21)
  go_enter Tryz.func47, Tryz.ntmps47
  go_wp2_with fail
  go_quiet (fail)
  go_wp2_with fail
  go_ret
  rw [← h1, ← h2] at h3
  have h4 : rotr x 11 = (x >>> 11) ||| (x <<< 21) := rfl
  rw [h4]
  refine ⟨?_, _, rfl⟩
  first | exact congrArg (fun z => Ending.returned (.int .u32 z)) h3 | (simp; exact h3) | trace_state
theorem turn13_any (x : U32) (w : World) :
    Calls Tryz.prog 47 #[.int .u32 (x.toNat : Int), .int .i64 13] w fun e w' => e = .returned (.int .u32 ((rotr x 13).toNat : Int)) ∧ ∃ n, w' = w.drewN n := by
  have h1 := w_shl x 19
  have h2 := w_shr x 13
  have h3 := w_or (x >>> 13) (x <<< 19)
  go_enter Tryz.func47, Tryz.ntmps47
  go_wp2_with fail
  go_quiet (fail)
  go_wp2_with fail
  go_ret
  rw [← h1, ← h2] at h3
  have h4 : rotr x 13 = (x >>> 13) ||| (x <<< 19) := rfl
  rw [h4]
  refine ⟨?_, _, rfl⟩
  first | exact congrArg (fun z => Ending.returned (.int .u32 z)) h3 | (simp; exact h3) | trace_state
theorem turn17_any (x : U32) (w : World) :
    Calls Tryz.prog 47 #[.int .u32 (x.toNat : Int), .int .i64 17] w fun e w' => e = .returned (.int .u32 ((rotr x 17).toNat : Int)) ∧ ∃ n, w' = w.drewN n := by
  have h1 := w_shl x 15
  have h2 := w_shr x 17
  have h3 := w_or (x >>> 17) (x <<< 15)
  go_enter Tryz.func47, Tryz.ntmps47
  go_wp2_with fail
  go_quiet (fail)
  go_wp2_with fail
  go_ret
  rw [← h1, ← h2] at h3
  have h4 : rotr x 17 = (x >>> 17) ||| (x <<< 15) := rfl
  rw [h4]
  refine ⟨?_, _, rfl⟩
  first | exact congrArg (fun z => Ending.returned (.int .u32 z)) h3 | (simp; exact h3) | trace_state
theorem turn18_any (x : U32) (w : World) :
    Calls Tryz.prog 47 #[.int .u32 (x.toNat : Int), .int .i64 18] w fun e w' => e = .returned (.int .u32 ((rotr x 18).toNat : Int)) ∧ ∃ n, w' = w.drewN n := by
  have h1 := w_shl x 14
  have h2 := w_shr x 18
  have h3 := w_or (x >>> 18) (x <<< 14)
  go_enter Tryz.func47, Tryz.ntmps47
  go_wp2_with fail
  go_quiet (fail)
  go_wp2_with fail
  go_ret
  rw [← h1, ← h2] at h3
  have h4 : rotr x 18 = (x >>> 18) ||| (x <<< 14) := rfl
  rw [h4]
  refine ⟨?_, _, rfl⟩
  first | exact congrArg (fun z => Ending.returned (.int .u32 z)) h3 | (simp; exact h3) | trace_state
theorem turn19_any (x : U32) (w : World) :
    Calls Tryz.prog 47 #[.int .u32 (x.toNat : Int), .int .i64 19] w fun e w' => e = .returned (.int .u32 ((rotr x 19).toNat : Int)) ∧ ∃ n, w' = w.drewN n := by
  have h1 := w_shl x 13
  have h2 := w_shr x 19
  have h3 := w_or (x >>> 19) (x <<< 13)
  go_enter Tryz.func47, Tryz.ntmps47
  go_wp2_with fail
  go_quiet (fail)
  go_wp2_with fail
  go_ret
  rw [← h1, ← h2] at h3
  have h4 : rotr x 19 = (x >>> 19) ||| (x <<< 13) := rfl
  rw [h4]
  refine ⟨?_, _, rfl⟩
  first | exact congrArg (fun z => Ending.returned (.int .u32 z)) h3 | (simp; exact h3) | trace_state
theorem turn22_any (x : U32) (w : World) :
    Calls Tryz.prog 47 #[.int .u32 (x.toNat : Int), .int .i64 22] w fun e w' => e = .returned (.int .u32 ((rotr x 22).toNat : Int)) ∧ ∃ n, w' = w.drewN n := by
  have h1 := w_shl x 10
  have h2 := w_shr x 22
  have h3 := w_or (x >>> 22) (x <<< 10)
  go_enter Tryz.func47, Tryz.ntmps47
  go_wp2_with fail
  go_quiet (fail)
  go_wp2_with fail
  go_ret
  rw [← h1, ← h2] at h3
  have h4 : rotr x 22 = (x >>> 22) ||| (x <<< 10) := rfl
  rw [h4]
  refine ⟨?_, _, rfl⟩
  first | exact congrArg (fun z => Ending.returned (.int .u32 z)) h3 | (simp; exact h3) | trace_state
theorem turn25_any (x : U32) (w : World) :
    Calls Tryz.prog 47 #[.int .u32 (x.toNat : Int), .int .i64 25] w fun e w' => e = .returned (.int .u32 ((rotr x 25).toNat : Int)) ∧ ∃ n, w' = w.drewN n := by
  have h1 := w_shl x 7
  have h2 := w_shr x 25
  have h3 := w_or (x >>> 25) (x <<< 7)
  go_enter Tryz.func47, Tryz.ntmps47
  go_wp2_with fail
  go_quiet (fail)
  go_wp2_with fail
  go_ret
  rw [← h1, ← h2] at h3
  have h4 : rotr x 25 = (x >>> 25) ||| (x <<< 7) := rfl
  rw [h4]
  refine ⟨?_, _, rfl⟩
  first | exact congrArg (fun z => Ending.returned (.int .u32 z)) h3 | (simp; exact h3) | trace_state

theorem consts_any (w : World) :
    Calls Tryz.prog 46 #[] w fun e w' => e = .returned (.slice (some ⟨w.heap.size, 0, none⟩) 64 64) ∧ St w w' [⟨.slice (some ⟨w.heap.size, 0, none⟩) 64 64, 92, 1, 64, u32s K64⟩] [] := by
  have hs := (St.refl w).made (u32s K64).toArray 92 1 64 (by rfl) (by simp [maxLen])
  go_enter Tryz.func46, Tryz.ntmps46
  go_wp2_with fail
  go_ret
  exact ⟨rfl, hs⟩
end Go.Proofs.YtlfdnlomlbbicaaGreatDoor

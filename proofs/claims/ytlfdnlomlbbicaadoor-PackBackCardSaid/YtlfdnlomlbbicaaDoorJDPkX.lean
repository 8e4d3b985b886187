/- Lists of rows: one brought to the head, and set back; make([]T, n) with a known zero. The walk of pack.Write. The walk of PackSmall. -/
import Derived.Test.YtlfdnlomlbbicaaDoorLib3
import Derived.Test.YtlfdnlomlbbicaaDoorPkW
import Derived.Test.YtlfdnlomlbbicaaDoorShaO
import Derived.Test.YtlfdnlomlbbicaaDoorJ16ShaH
namespace Go.Mx
open Go Go.RowKit
theorem perm_pick {α : Type} (l : List α) (i : Nat) (h : i < l.length) : l.Perm (l[i] :: l.eraseIdx i) := by
  induction l generalizing i with
  | nil => simp at h
  | cons x l ih =>
    match i with
    | 0 => simp
    | i + 1 =>
      simp only [List.getElem_cons_succ, List.eraseIdx_cons_succ]
      exact ((ih i (by simpa using h)).cons x).trans (List.Perm.swap _ _ _)
theorem perm_set {α : Type} (l : List α) (i : Nat) (h : i < l.length) (x : α) : (x :: l.eraseIdx i).Perm (l.set i x) := by
  induction l generalizing i with
  | nil => simp at h
  | cons y l ih =>
    match i with
    | 0 => simp
    | i + 1 =>
      simp only [List.set_cons_succ, List.eraseIdx_cons_succ]
      exact (List.Perm.swap _ _ _).trans ((ih i (by simpa using h)).cons y)
theorem run_make_rep {P : Program} {t e : TypeId} {z : Value} {bytes : Nat} (ht : P.underlying t = some (.slice e)) (h : (P.info? e).map (fun i => (i.zero, i.size, i.bytes)) = some (some z, 1, bytes)) (hz : z.cells = #[z]) (hby : 1 ≤ bytes) (n : Nat) (hb : bytes * n ≤ 281474976710656) :
    ∃ C : Array Value, C.toList = List.replicate n z ∧ ∀ (i : Int), i = n → ∀ w : World, (Instr.makeSlice t (.int .i64 i) (.int .i64 i)).run P w = .ok (.slice (some ⟨w.heap.size, 0, none⟩) n n) (w.alloc (.cells C e)) := by
  obtain ⟨i, h1, h2, h3, h4⟩ := info_parts h
  refine ⟨madeCells #[z] n, toList_madeCells_one z n, fun k hk w => ?_⟩
  subst hk
  have hn : n ≤ bytes * n := Nat.le_mul_of_pos_left n hby
  have := run_make (P := P) w t e i z ht h1 h2 .i64 .i64 (n : Int) (n : Int) (by omega) (by omega) (by rw [h4]; have : ((bytes * n : Nat) : Int) = (bytes : Int) * (n : Int) := Int.natCast_mul _ _; omega) (by omega)
  rw [this, h3, hz, Nat.mul_one, Int.toNat_natCast]
end Go.Mx

namespace Go.Mx
open Go Go.RowKit
/-- The depths' slice while a pack is made: what is known, and zeros. -/
def dD (pre : List (List UInt8 × Nat)) (n : Nat) : List Int := pre.map (fun p => (p.2 : Int)) ++ List.replicate (n - pre.length) 0
theorem dD_len {pre : List (List UInt8 × Nat)} {n : Nat} (h : pre.length ≤ n) : (dD pre n).length = n := by
  simp only [dD, List.length_append, List.length_map, List.length_replicate]
  omega
theorem dD_get {pre : List (List UInt8 × Nat)} {n j : Nat} {p : List UInt8 × Nat} (h : pre[j]? = some p) : (dD pre n)[j]? = some (p.2 : Int) := by
  obtain ⟨hj, rfl⟩ := List.getElem?_eq_some_iff.1 h
  unfold dD
  rw [List.getElem?_append_left (by simpa using hj), List.getElem?_map, h]
  rfl
theorem dD_rep {pre : List (List UInt8 × Nat)} {n : Nat} (x : List UInt8) (d : Nat) : dD (pre ++ [(x, d)]) n = pre.map (fun p => (p.2 : Int)) ++ (d : Int) :: List.replicate (n - pre.length - 1) 0 := by
  unfold dD
  rw [List.map_append, List.append_assoc, List.length_append]
  rfl
theorem dD_zero {pre : List (List UInt8 × Nat)} {n : Nat} (x : List UInt8) (h : pre.length < n) : dD (pre ++ [(x, 0)]) n = dD pre n := by
  rw [dD_rep x 0, dD, show n - pre.length = (n - pre.length - 1) + 1 by omega, List.replicate_succ]
  rfl
theorem dD_put {pre : List (List UInt8 × Nat)} {n : Nat} (x : List UInt8) (d : Nat) (h : pre.length < n) : (is (dD pre n)).take pre.length ++ [Value.int .i64 (d : Int)] ++ (is (dD pre n)).drop (pre.length + 1) = is (dD (pre ++ [(x, d)]) n) := by
  obtain ⟨m, hm⟩ : ∃ m, n - pre.length = m + 1 := ⟨n - pre.length - 1, by omega⟩
  rw [dD_rep x d, dD, hm, List.replicate_succ, Nat.add_sub_cancel]
  have e2 : (is (pre.map (fun p => (p.2 : Int)))).length = pre.length := by rw [is, List.length_map, List.length_map]
  have e3 : is (pre.map (fun p => (p.2 : Int)) ++ 0 :: List.replicate m 0) = is (pre.map (fun p => (p.2 : Int))) ++ ([.int .i64 0] ++ is (List.replicate m 0)) := by simp [is]
  have e4 : is (pre.map (fun p => (p.2 : Int)) ++ (d : Int) :: List.replicate m 0) = is (pre.map (fun p => (p.2 : Int))) ++ ([.int .i64 (d : Int)] ++ is (List.replicate m 0)) := by simp [is]
  rw [e3, e4, ← e2, List.take_left, ← List.append_assoc (is _) [_] (is _), List.drop_left' (by simp), ← List.append_assoc]
theorem St.madeM_at {w0 w : World} {R : List Row} {Q : List Rd} (h : St w0 w R Q) (cells : Array Value) (e : TypeId) (size n g : Nat) (hn : cells.size = n * size) (hm : n ≤ maxLen) (hg : g = w.heap.size) :
    St w0 (w.alloc (.cells cells e (cells.size, cells.size + 1))) (⟨.slice (some ⟨g, 0, none⟩) n n, e, size, n, cells.toList⟩ :: R) Q := by
  subst hg; exact h.madeM cells e size n hn hm
def hdP (n : Nat) : List UInt8 := [77, 80, 49] ++ putL n
def bodyP (l : List (List UInt8)) (i : Nat) : List UInt8 := hdP l.length ++ (pkAll (l.take i)).1
theorem bodyP_0 (l : List (List UInt8)) : bodyP l 0 = hdP l.length := by unfold bodyP; rw [List.take_zero]; exact List.append_nil _
theorem bodyP_end (l : List (List UInt8)) : bodyP l l.length = pkB l := by unfold bodyP; rw [List.take_length]; rfl
theorem bodyP_step {l : List (List UInt8)} {i : Nat} (h : i < l.length) : bodyP l (i + 1) = bodyP l i ++ (entP (pkAll (l.take i)).2 l[i]).1 := by
  unfold bodyP
  rw [pk_take h, pkStep, List.append_assoc]
theorem sum_le' {m : Nat} : ∀ {l : List (List UInt8)}, (∀ x ∈ l, x.length ≤ m) → (l.map List.length).sum ≤ m * l.length
  | [], _ => by simp
  | x :: l, h => by
    have h1 := sum_le' (l := l) fun y hy => h y (List.mem_cons_of_mem _ hy)
    have h2 := h x (List.mem_cons_self ..)
    simp only [List.map_cons, List.sum_cons, List.length_cons, Nat.mul_add]
    omega
theorem bodyP_len {l : List (List UInt8)} (hx : ∀ x ∈ l, x.length ≤ 2000) (hl : l.length ≤ 127) (i : Nat) : (bodyP l i).length ≤ 260000 := by
  have h0 : (l.take i).length ≤ 127 := by rw [List.length_take]; omega
  have h1 := pk_size (l := l.take i) (fun x h => hx x (List.mem_of_mem_take h)) h0
  have h2 := sum_le' (l := l.take i) (m := 2000) (fun x h => hx x (List.mem_of_mem_take h))
  have h3 := putL_1 hl
  simp only [bodyP, hdP, List.length_append, List.length_cons, List.length_nil]
  have h4 : 2000 * (l.take i).length ≤ 2000 * 127 := Nat.mul_le_mul_left _ h0
  omega
end Go.Mx
namespace Go.Proofs.YtlfdnlomlbbicaaDoor
open Go.RowKit Go.Mx
def PkwPost (l : List (List UInt8)) (w : World) (e : Ending) (w' : World) : Prop :=
  (mayE l = 0 ∧ ∃ v, e = .returned (.tuple #[v, .int .i64 0]) ∧ St w w' [⟨v, 5, 1, (packL l).length, bs (packL l)⟩] []) ∨ (mayE l = 4 ∧ e = .returned (.tuple #[.slice none 0 0, .int .i64 4]) ∧ St w w' [] [])
abbrev gdr (g n : Nat) (D : List Int) : Row := ⟨.slice (some ⟨g, 0, none⟩) n n, 3, 1, n, is D⟩
abbrev pbr (v : Value) (l : List UInt8) : Row := ⟨v, 5, 1, l.length, bs l⟩

set_option maxRecDepth 100000 in
set_option maxHeartbeats 4000000 in
theorem pwrite_any (v : Value) (l : List (List UInt8)) (w : World) (hv : LL w v l) (hl : l.length ≤ 127) (hz : ∀ x ∈ l, x.length ≤ 2000) (hL : Laid w) (hI : IndexOk w) :
    Calls Tryd.prog 7 #[v] w (PkwPost l w) := by
  have HV := Mx.hid hv
  have HM := Mx.hid (pmay_any v l w hv (by omega) (fun x hx => by have := hz x hx; omega))
  obtain ⟨ao, cap, blk, off, us, rfl, h1, h2, hc, hs⟩ := hv.at
  have HC := Mx.hid (fun k hk => (⟨(hc k hk).1, (hc k hk).2⟩ : ao = some ⟨blk, off, none⟩ ∧ w.cell? ⟨blk, off + k, none⟩ = some (us k)))
  have HS := Mx.hid hs
  have HZ := Mx.hid (fun (k : Nat) (hk : k < l.length) => hz l[k] (List.getElem_mem hk))
  have HB := Mx.hid (bodyP_len hz hl)
  have HL := Mx.hid (fun w' (h : St w w' [] []) => hL.keep h)
  have HI := Mx.hid (fun w' (h : St w w' [] []) => hI.keep h)
  clear hv hc hs hz hL hI
  by_cases hd : ∀ x ∈ l, (decO x).2 = 0
  · rw [mayE_0 hd] at HM
    have HE := Mx.hid (mayE_0 hd)
    have HNE := Mx.hid (show ∀ x ∈ l, x ≠ [] from fun x hx h => by have := hd x hx; rw [h] at this; cases this)
    have hp1 := putL_1 hl
    obtain ⟨C, hC, hmk⟩ := run_make_rep (P := Tryd.prog) (t := 42) (e := 3) (z := .int .i64 0) (bytes := 8) Tryd.underlying42 (by kernel_rfl) rfl (by omega) l.length (by omega)
    have hmk2 := hmk (l.length : Int) rfl
    have hCs : C.size = l.length * 1 := by have := congrArg List.length hC; simpa using this
    have HCD := Mx.hid (show C.toList = is (dD [] l.length) by rw [hC]; simp [dD, is])
    clear hmk hC hd
    have kc := fun (w : World) (C : Array Value) (n c : Nat) => Lib.run_convert_bytes_const (P := Tryd.prog) w 25 5 C n c Tryd.underlying25 Tryd.underlying5
    go_enter Tryd.func7, Tryd.ntmps7
    go_wp2_with fail
    refine HM.out.mono ?_
    rintro e w1 ⟨rfl, hk⟩
    clear HM
    have hq := hk.madeM_at #[.int .u8 77, .int .u8 80, .int .u8 49] 5 1 3 w1.heap.size rfl (by simp [maxLen]) rfl
    go_wp2_with fail
    refine (pnumber_app w _ [] [] _ _ 3 l.length hq (by omega) (by omega)).mono ?_
    rintro e w2 ⟨v2, rfl, hs2⟩
    replace hs2 := hs2.cast (n' := (bodyP l 0).length) (xs' := bs (bodyP l 0)) (by rw [bodyP_0, hdP, List.length_append]; rfl) (by rw [bodyP_0, hdP, bs_app]; rfl)
    have hs3 := ((hs2.madeAt C 3 1 l.length w2.heap.size hCs (by unfold maxLen; omega) rfl).cast rfl HCD.out).swap
    have HS3 := Mx.hid hs3
    clear hq hk hs2 hs3 kc
    go_wp2_with fail
    clear hmk2
    generalize w2.alloc _ = w3 at *
    generalize w2.heap.size = gd at *
    go_loopw [5, 26] (fun x y wr => ∃ i : Nat, y = .int .i64 i ∧ i ≤ l.length ∧ St w wr [pbr x (bodyP l i), gdr gd l.length (dD (pkAll (l.take i)).2 l.length)] []) (fun _ y _ => l.length - (intOf y).toNat)
    case atStart => exact ⟨0, rfl, by omega, HS3.out⟩
    case round =>
      clear HS3
      obtain ⟨i, rfl, hi, hs⟩ := hrel
      by_cases hlt : i < l.length
      · obtain ⟨rfl, a0⟩ := HC.out i hlt
        have hx := HS.out i hlt
        obtain ⟨xo, xc, hu, _⟩ := hx.form
        have hxz := HZ.out i hlt
        replace a0 := hs.keep a0
        rw [hu] at a0 hx
        have hbl := HB.out i
        have hst := bodyP_step hlt
        have hpk := pk_take hlt
        have hpl := pk_len (l.take i)
        have hpf := pk_fst (l.take i)
        have HN := Mx.hid (nearest_any _ l (.slice (some ⟨gd, 0, none⟩) l.length l.length) (dD (pkAll (l.take i)).2 l.length) i (pkAll (l.take i)).2 wr (LL.old hs HV.out) (by rw [dD_len (by rw [hpl, List.length_take]; omega)]; exact hs.sl1) hlt (by omega) (dD_len (by rw [hpl, List.length_take]; omega)) HNE.out hpf (fun j p h => dD_get h))
        have hw : entP (pkAll (l.take i)).2 l[i] = (whP l[i], 0) → bodyP l (i + 1) = bodyP l i ++ (0 :: (putL l[i].length ++ l[i])) ∧ dD (pkAll (l.take (i + 1))).2 l.length = dD (pkAll (l.take i)).2 l.length   := fun h => by
          rw [hst, hpk, pkStep, h]
          exact ⟨rfl, dD_zero _ (by rw [hpl, List.length_take]; omega)⟩
        have HW := Mx.hid hw
        have hii : (i : Int) < (l.length : Int) := by omega
        have hput := putL_2 hxz
        by_cases h0 : nearN (pkAll (l.take i)).2 l[i] = 0
        · obtain ⟨e1, e2⟩ := HW.out (ent_0 h0)
          rw [h0] at HN
          have H1 := Mx.hid e1
          have H2 := Mx.hid e2
          clear hst hpk hpl hpf hw HW h0 e1 e2
          generalize hO : bodyP l i = O at *
          generalize dD (pkAll (l.take i)).2 l.length = D at *
          generalize l[i] = x at *
          go_wp2_with fail
          refine HN.out.mono ?_
          rintro e w4 ⟨rfl, hk⟩
          replace hs := hs.call0 hk
          go_wp2_with (at_builtin; refine wpl_app rfl _ _ 25 rfl Tryd.elU8 (hs.alloc _) rfl (by exact Sl.one _ _ _) (by intro u hu; simp at hu; subst hu; rfl) (by omega) ?_; intro v6 w6 hs6 _)
          refine (pnumber_app w w6 _ _ _ _ _ x.length hs6 (by omega) (by omega)).mono ?_
          rintro e w7 ⟨v7, rfl, hs7⟩
          generalize hla : (putL x.length).length = pa at *
          go_wp2_with (at_builtin; refine wpl_app rfl _ _ 25 rfl Tryd.elU8 hs7 rfl (by exact (hs7.old hx)) (bs_one _) (by omega) ?_; intro v8 w8 hs8 _)
          go_roundw
          case rel => exact ⟨i + 1, by go_num, by omega, (by rw [H1.out, H2.out]; exact hs8.cast (by simp only [List.length_append, List.length_cons, hla]; omega) (by simp only [bs_app, bs_cons]; simp))⟩
          case measure => simp [intOf]; omega
        · obtain ⟨⟨pb, pd⟩, hpp, _, hp8⟩ := nearN_ok h0
          have hnle := nearN_le (pkAll (l.take i)).2 l[i]
          have hE1 := fun (hm : (makeR pb l[i]).length < l[i].length) => ent_1 rfl h0 hpp hm
          have hE2 := fun (hm : ¬ (makeR pb l[i]).length < l[i].length) => HW.out (ent_2 rfl h0 hpp hm)
          have hpl' : (pkAll (l.take i)).2.length = i := by rw [hpl, List.length_take]; omega
          rw [hpl'] at hpp hnle
          obtain ⟨K, hK⟩ : ∃ K, i - nearN (pkAll (l.take i)).2 l[i] = K := ⟨_, rfl⟩
          rw [hK] at hpp
          have hKi : K < i := by omega
          have hKl : K < l.length := by omega
          have hk : (i : Int) - (nearN (pkAll (l.take i)).2 l[i] : Int) = (K : Int) := by omega
          have hpb : pb = l[K] := by
            have : ((pkAll (l.take i)).2.map Prod.fst)[K]? = (l.take i)[K]? := by rw [hpf]
            rw [List.getElem?_map, hpp, List.getElem?_take, if_pos hKi, List.getElem?_eq_getElem hKl] at this
            simpa using this
          subst hpb
          have hdk := dD_get (n := l.length) hpp
          have HD2 := Mx.hid (dD_put l[i] (pd + 1) (show (pkAll (l.take i)).2.length < l.length by omega))
          rw [hpl'] at HD2
          have HST := Mx.hid (And.intro hst hpk)
          obtain ⟨_, b0⟩ := HC.out K hKl
          have hy := HS.out K hKl
          obtain ⟨yo, yc, hu2, _⟩ := hy.form
          have hyz := HZ.out K hKl
          have c0 : wr.cell? ⟨gd, K, none⟩ = some (.int .i64 (pd : Int)) := hs.rcell (List.mem_cons_of_mem _ (List.mem_cons_self ..)) (by rw [is, List.getElem?_map, hdk]; rfl)
          have HC0 := Mx.hid (show (is (dD (pkAll (l.take i)).2 l.length))[K]? = some (.int .i64 (pd : Int)) by rw [is, List.getElem?_map, hdk]; rfl)
          have hlD : i < (is (dD (pkAll (l.take i)).2 l.length)).length := by rw [is, List.length_map, dD_len (by omega)]; exact hlt
          have hKI : (K : Int) < (l.length : Int) := by omega
          have hp8' : (pd : Int) ≤ 8 := by simp only at hp8; omega
          have hN1 : 1 ≤ nearN (pkAll (l.take i)).2 l[i] := by omega
          have hN2 : nearN (pkAll (l.take i)).2 l[i] ≤ 127 := by omega
          have hp1' := putL_1 hN2
          clear hst hpk hpl hpf hw HW h0 hpp hdk hpl' hK hp8
          generalize hO : bodyP l i = O at *
          generalize dD (pkAll (l.take i)).2 l.length = D at *
          replace b0 := hs.keep b0
          rw [hu2] at b0 hy
          generalize nearN (pkAll (l.take i)).2 l[i] = N at *
          generalize l[i] = x at *
          generalize l[K] = y at *
          have hN1' : (0 : Int) < (N : Int) := by omega
          go_wp2_with fail
          refine HN.out.mono ?_
          rintro e w4 ⟨rfl, hk⟩
          replace b0 := hk.keep b0
          replace hs := hs.call0 hk
          have HMK := Mx.hid (make_any w4 _ _ y x (hs.old hy) (hs.old hx) (by omega) (by omega) (HI.out _ hs.bare))
          go_wp2_with fail
          refine HMK.out.mono ?_
          unfold MakePost
          rintro e w5 ⟨vm, rfl, hk5⟩
          replace hs := hs.call1 hk5
          obtain ⟨mo, mc, rfl, _⟩ := id hk5.sl0
          clear HMK hk5 hk HN
          generalize makeR y x = m at *
          by_cases hm : m.length < x.length
          · have hE := hE1 hm
            have hm' : decide (m.length < x.length) = true := decide_eq_true (by omega)
            have H1 := Mx.hid hE
            have hmz : m.length ≤ 2000 := by omega
            have hput2 := putL_2 hmz
            clear hE1 hE2 hE hm
            have hsA := hs.perm (List.perm_append_comm (l₁ := [_, _]) (l₂ := [_]))
            have c1 : w5.cell? ⟨gd, K, none⟩ = some (.int .i64 (pd : Int)) := hs.rcell (List.mem_cons_of_mem _ (List.mem_cons_of_mem _ (List.mem_cons_self ..))) HC0.out
            go_wp2_with (first | (((with_reducible show wpList _ _ _ _ _ _); refine wpl_store1 rfl 3 _ _ rfl hsA (i) rfl (.int .i64 ((pd : Int) + 1)) rfl rfl (by kernel_rfl) hlD rfl ?_; intro w6 hsB); have hsC := hsB.perm (List.perm_append_comm (l₁ := [_, _]) (l₂ := [_]))) | (at_builtin; refine wpl_app rfl _ _ 25 rfl Tryd.elU8 (hsC.alloc _) rfl (by exact Sl.one _ _ _) (by intro u hu; simp at hu; subst hu; rfl) (by omega) ?_; intro v7 w7 hs7 _))
            refine (pnumber_app w w7 _ _ _ _ _ N hs7 (by omega) (by omega)).mono ?_
            rintro e w8 ⟨v8, rfl, hs8⟩
            generalize hla : (putL N).length = pa at *
            go_wp2_with fail
            refine (pnumber_app w w8 _ _ _ _ _ m.length hs8 (by omega) (by omega)).mono ?_
            rintro e w9 ⟨v9, rfl, hs9⟩
            generalize hlb : (putL m.length).length = pc at *
            have hmv : Sl w9 1 (.slice mo m.length mc) m.length (bs m) := hs9.sl (r := ⟨.slice mo m.length mc, 5, 1, m.length, bs m⟩) (by simp)
            go_wp2_with (at_builtin; refine wpl_app rfl _ _ 25 rfl Tryd.elU8 hs9 rfl (by exact hmv) (bs_one _) (by omega) ?_; intro vA wA hsD _)
            go_roundw
            case rel => exact ⟨i + 1, by go_num, by omega, (by
              rw [HST.out.1, HST.out.2, pkStep, H1.out]
              exact ((hsD.cast (n' := (O ++ (1 :: (putL N ++ (putL m.length ++ m)))).length) (xs' := bs (O ++ (1 :: (putL N ++ (putL m.length ++ m))))) (by simp only [List.length_append, List.length_cons, hla, hlb]; omega) (by simp only [bs_app, bs_cons]; simp)).swap.cast rfl HD2.out).swap.sub (.cons_cons _ (.cons_cons _ (.cons _ .slnil))) (by simp))⟩
            case measure => simp [intOf]; omega
          · obtain ⟨e1, e2⟩ := hE2 hm
            have H1 := Mx.hid e1
            have H2 := Mx.hid e2
            have hm' : decide (m.length < x.length) = false := decide_eq_false (by omega)
            clear hE1 hE2 e1 e2 hm
            replace hs := hs.tail
            go_wp2_with (at_builtin; refine wpl_app rfl _ _ 25 rfl Tryd.elU8 (hs.alloc _) rfl (by exact Sl.one _ _ _) (by intro u hu; simp at hu; subst hu; rfl) (by omega) ?_; intro v6 w6 hs6 _)
            refine (pnumber_app w w6 _ _ _ _ _ x.length hs6 (by omega) (by omega)).mono ?_
            rintro e w7 ⟨v7, rfl, hs7⟩
            generalize hla : (putL x.length).length = pa at *
            go_wp2_with (at_builtin; refine wpl_app rfl _ _ 25 rfl Tryd.elU8 hs7 rfl (by exact (hs7.old hx)) (bs_one _) (by omega) ?_; intro v8 w8 hs8 _)
            go_roundw
            case rel => exact ⟨i + 1, by go_num, by omega, (by rw [H1.out, H2.out]; exact hs8.cast (by simp only [List.length_append, List.length_cons, hla]; omega) (by simp only [bs_app, bs_cons]; simp))⟩
            case measure => simp [intOf]; omega
      · obtain rfl : i = l.length := by omega
        have hbe := bodyP_end l
        rw [hbe] at hs
        have hbl := HB.out l.length
        rw [hbe] at hbl
        have HPL := Mx.hid (show packL l = pkB l ++ sha (pkB l) from rfl)
        have hsl := sha_len (pkB l)
        generalize pkB l = O at *
        go_wp2_with fail
        refine (sum_any wr _ O hs.sl0 (by omega) (fun w' h => HL.out _ (hs.call0 h).bare)).mono ?_
        rintro e w4 ⟨v4, rfl, hk⟩
        have hk := hk.cast (n' := (sha O).length) (xs' := bs (sha O)) hsl.symm rfl
        have hs4 := (hs.call1 hk).swap
        generalize sha O = sh at *
        go_wp2_with (at_builtin; refine wpl_app rfl _ _ 25 rfl Tryd.elU8 hs4 rfl (by exact hk.sl0) (bs_one _) (by omega) ?_; intro v5 w5 hs5 _)
        go_ret2
        refine .inl ⟨HE.out, v5, rfl, ?_⟩
        rw [HPL.out]
        exact hs5.head.cast (by rw [List.length_append]) (by rw [bs_app])
  · have hE : mayE l = 4 := by unfold mayE; rw [if_neg hd]
    have HE := Mx.hid hE
    rw [hE] at HM
    clear hd hE
    go_enter Tryd.func7, Tryd.ntmps7
    go_wp2_with fail
    refine HM.out.mono ?_
    rintro e w1 ⟨rfl, hk⟩
    go_wp2_with fail
    go_ret2
    exact .inr ⟨HE.out, rfl, hk⟩
end Go.Proofs.YtlfdnlomlbbicaaDoor

namespace Go.Mx
open Go Go.RowKit
theorem mayE_nil : mayE [] = 0 := mayE_0 (by simp)
theorem mayE_rep {l : List (List UInt8)} {x : List UInt8} (h : mayE l = 0) (hx : x ∈ l) (n : Nat) : mayE (List.replicate n x) = 0 := by
  refine mayE_0 fun y hy => ?_
  rw [List.eq_of_mem_replicate hy]
  by_cases hd : (decO x).2 = 0
  · exact hd
  · rw [mayE_4 hx hd] at h; cases h
theorem packL_nil : packL [] = [77, 80, 49, 0] ++ sha [77, 80, 49, 0] := by
  have h : pkB [] = [77, 80, 49, 0] := by
    have h1 : putL 0 = [0] := by rw [putL, dif_pos (by omega)]; rfl
    have h2 : (pkAll []).1 = [] := rfl
    unfold pkB
    rw [h2, List.length_nil, h1]
    rfl
  unfold packL
  rw [h]
theorem LL.rep {w : World} {v u : Value} {x : List UInt8} {n : Nat} (hv : Sl w 1 v n (List.replicate n u)) (hu : Sl w 1 u x.length (bs x)) : LL w v (List.replicate n x) := by
  have h : ∀ n, rds (List.replicate n u) (List.replicate n x) = List.replicate n ⟨u, 1, x.length, bs x⟩ := by
    intro n
    induction n with
    | zero => rfl
    | succ n ih => rw [List.replicate_succ, List.replicate_succ, List.replicate_succ, ← ih]; rfl
  refine ⟨List.replicate n u, by simp, by rw [List.length_replicate]; exact hv, fun q hq => ?_⟩
  rw [h] at hq
  rw [List.eq_of_mem_replicate hq]
  exact hu
end Go.Mx
namespace Go.Proofs.YtlfdnlomlbbicaaDoor
open Go.RowKit Go.Mx
set_option maxRecDepth 100000 in
theorem first10_any (w : World) (hL : Laid w) (hI : IndexOk w) : Calls Tryd.prog 5 #[] w fun e w' => e = .returned (.bool true) ∧ St w w' [] [] := by
  go_enter Tryd.func5, Tryd.ntmps5
  go_wp2_with fail
  refine (pwrite_any _ [] w (LL.nil w) (by simp) (by simp) hL hI).mono ?_
  unfold PkwPost
  rintro e w1 (⟨_, v, rfl, hs⟩ | ⟨h, _⟩)
  · rw [packL_nil] at hs
    have hsl := sha_len [77, 80, 49, 0]
    have hlen : ([77, 80, 49, 0] ++ sha [77, 80, 49, 0]).length = 36 := by rw [List.length_append, hsl]; rfl
    have htk : ([77, 80, 49, 0] ++ sha [77, 80, 49, 0]).take 4 = [77, 80, 49, 0] := List.take_left' rfl
    generalize [77, 80, 49, 0] ++ sha [77, 80, 49, 0] = B at *
    have hs0 := hs.sl0
    obtain ⟨x, p1, q1⟩ := hs0.cutRun Tryd.elU8 none (some (.int .i64 4)) 0 4 (.inl ⟨rfl, rfl⟩) (.inr ⟨.i64, rfl⟩) (by omega) (by omega)
    have hx := Sl.cutB (q1 _ hs0) (by omega) (Nat.zero_le _)
    rw [htk, List.drop_zero] at hx
    obtain ⟨bo, bc, rfl, _⟩ := id hs0
    have ht : ((str [77, 80, 49, 0]).toList == [77, 80, 49, 0]) = true := by rw [str_toL]; rfl
    have hbare := Mx.hid hs.bare
    clear q1 hs0 hs htk
    rw [hlen] at p1 ⊢
    go_wp2_with (first | ((with_reducible show wpList _ _ _ _ _ _); refine wpl_want rfl ?_) | ((with_reducible show wpList _ _ _ _ _ _); refine wpl_b2s rfl 25 9 5 _ rfl Tryd.underlying25 Tryd.underlying5 Tryd.underlying9 (by exact hx) ?_))
    go_ret
    exact ⟨rfl, hbare.out⟩
  · rw [mayE_nil] at h
    cases h
set_option maxRecDepth 100000 in
set_option maxHeartbeats 4000000 in
theorem packSmallRow (v : Value) (l : List (List UInt8)) {w : World} (hv : LL w v l) (hz : ∀ x ∈ l, x.length ≤ reachBytes) (n : Int) (wn : (Lit.int .i64 n).wf = true) (_w : World) (hLd : Laid w) (hId : IndexOk w) :
    Calls Tryd.prog 3 #[v, .int .i64 n] w fun e w' => e = .returned (.bool true) ∧ Below w.heap.size w w' := by
  have HL := Mx.hid (fun w' (h : St w w' [] []) => hLd.keep h)
  have HI := Mx.hid (fun w' (h : St w w' [] []) => hId.keep h)
  have HV := Mx.hid hv
  have HZ := Mx.hid hz
  obtain ⟨ao, cap, blk, off, us, rfl, h1, h2, hc, hs⟩ := hv.at
  have HC := Mx.hid (fun k hk => (⟨(hc k hk).1, (hc k hk).2⟩ : ao = some ⟨blk, off, none⟩ ∧ w.cell? ⟨blk, off + k, none⟩ = some (us k)))
  have HS := Mx.hid hs
  clear hv hz hc hs hLd hId
  go_enter Tryd.func3, Tryd.ntmps3
  go_wp2_with fail
  refine (first10_any _ (HL.out _ (St.refl w)) (HI.out _ (St.refl w))).mono ?_
  rintro e w1 ⟨rfl, hk⟩
  go_wp2_with (first | ((with_reducible show wpList _ _ _ _ _ _); refine wpl_want rfl ?_))
  refine (few10_any _ l _ (LL.old hk HV.out) (fun x hx => by have := HZ.out x hx; unfold reachBytes at this; omega)).mono ?_
  rintro e w2 ⟨b1, rfl, hk2, hb1⟩
  replace hk := hk.call0 hk2
  clear hk2
  cases b1 with
  | false =>
    go_wp2_with (first | ((with_reducible show wpList _ _ _ _ _ _); refine wpl_want rfl ?_) | (go_at_call 5; refine (first10_any _ (HL.out _ hk.bare) (HI.out _ hk.bare)).mono ?_; rintro e wf ⟨rfl, hkf⟩; replace hk := hk.call0 hkf))
    go_ret
    exact ⟨rfl, hk.below⟩
  | true =>
  obtain ⟨hl40, hl15, hl60⟩ := hb1 rfl
  clear hb1
  by_cases hn1 : n < 1
  · have d1 : decide (n < 1) = true := decide_eq_true hn1
    go_wp2_with (first | ((with_reducible show wpList _ _ _ _ _ _); refine wpl_want rfl ?_) | (go_at_call 5; refine (first10_any _ (HL.out _ hk.bare) (HI.out _ hk.bare)).mono ?_; rintro e wf ⟨rfl, hkf⟩; replace hk := hk.call0 hkf))
    go_ret
    exact ⟨rfl, hk.below⟩
  by_cases hn2 : 20 < n
  · have d1 : decide (n < 1) = false := decide_eq_false hn1
    have d2 : decide (20 < n) = true := decide_eq_true hn2
    go_wp2_with (first | ((with_reducible show wpList _ _ _ _ _ _); refine wpl_want rfl ?_) | (go_at_call 5; refine (first10_any _ (HL.out _ hk.bare) (HI.out _ hk.bare)).mono ?_; rintro e wf ⟨rfl, hkf⟩; replace hk := hk.call0 hkf))
    go_ret
    exact ⟨rfl, hk.below⟩
  have d1 : decide (n < 1) = false := decide_eq_false hn1
  have d2 : decide (20 < n) = false := decide_eq_false hn2
  obtain ⟨k, rfl⟩ : ∃ k : Nat, n = (k : Int) := ⟨n.toNat, by omega⟩
  have hk20 : k ≤ 20 := by omega
  have hk1 : 1 ≤ k := by omega
  clear wn hn1 hn2
  have HW := Mx.hid (pwrite_any _ l w2 (LL.old hk HV.out) (by omega) (fun x hx => by have := hl15 x hx; omega) (HL.out _ hk.bare) (HI.out _ hk.bare))
  have HPS := Mx.hid (pack_size (l := l) (fun x hx => by have := hl15 x hx; omega) (by omega))
  have H15 := Mx.hid hl15
  clear hl15 hl60
  go_wp2_with (first | ((with_reducible show wpList _ _ _ _ _ _); refine wpl_want rfl ?_))
  clear d1 d2
  refine HW.out.mono ?_
  unfold PkwPost
  rintro e w3 (⟨hme, vb, rfl, hkb⟩ | ⟨_, rfl, hkb⟩)
  case inr =>
    replace hk := hk.call0 hkb
    go_wp2_with (first | ((with_reducible show wpList _ _ _ _ _ _); refine wpl_want rfl ?_) | (go_at_call 5; refine (first10_any _ (HL.out _ hk.bare) (HI.out _ hk.bare)).mono ?_; rintro e wf ⟨rfl, hkf⟩; replace hk := hk.call0 hkf))
    go_ret
    exact ⟨rfl, hk.below⟩
  have HME := Mx.hid hme
  replace hk := hk.call1 hkb
  obtain ⟨bo, bc, rfl, _⟩ := id hkb.sl0
  clear hkb hme HW
  generalize packL l = B at *
  go_wp2_with fail
  go_loopw [7, 8] (fun x y wr => ∃ (i : Nat) (T : Int), x = .int .i64 T ∧ y = .int .i64 i ∧ i ≤ l.length ∧ 0 ≤ T ∧ T ≤ 200 + 1500 * (i : Int) ∧ Hid (T = 37 + 4 * l.length + (((l.take i).map List.length).sum : Nat)) ∧ w3 = wr) (fun _ y _ => l.length - (intOf y).toNat)
  case atStart => exact ⟨0, _, rfl, rfl, by omega, by omega, by omega, Mx.hid (by simp), rfl⟩
  case round =>
    obtain ⟨i, T, rfl, rfl, hi, hT0, hT1, HT, rfl⟩ := hrel
    by_cases hlt : i < l.length
    · obtain ⟨rfl, a0⟩ := HC.out i hlt
      have hx := HS.out i hlt
      have hz := H15.out _ (List.getElem_mem hlt)
      obtain ⟨xo, xc, hu, _⟩ := hx.form
      rw [hu] at a0
      replace a0 := hk.keep a0
      have HTS := Mx.hid (show ((l.take (i + 1)).map List.length).sum = ((l.take i).map List.length).sum + l[i].length by rw [List.take_succ_eq_append_getElem hlt, List.map_append, List.sum_append]; simp)
      clear hx hu
      generalize l[i].length = z at *
      go_wp2_with fail
      exact ⟨⟨i + 1, _, rfl, by go_num, by omega, by omega, by omega, Mx.hid (by have h1 := HT.out; rw [HTS.out]; omega), by trivial⟩, by simp [intOf]; omega⟩
    · obtain rfl : i = l.length := by omega
      have hB : (B.length : Int) ≤ T := by
        have h1 := HT.out
        have h2 := HPS.out
        rw [List.take_length] at h1
        omega
      have d3 : decide (T < (B.length : Int)) = false := decide_eq_false (by omega)
      clear HT HPS hB hlt hi hT0 hT1
      cases l with
      | nil =>
        go_wp2_with (first | ((with_reducible show wpList _ _ _ _ _ _); refine wpl_want rfl ?_) | (go_at_call 5; refine (first10_any _ (HL.out _ hk.bare) (HI.out _ hk.bare)).mono ?_; rintro e wf ⟨rfl, hkf⟩; replace hk := hk.call0 hkf))
        go_ret
        exact ⟨rfl, hk.below⟩
      | cons x0 l' =>
      obtain ⟨rfl, a0⟩ := HC.out 0 (by simp)
      have hx := HS.out 0 (by simp)
      rw [List.getElem_cons_zero] at hx
      obtain ⟨xo, xc, hu, _⟩ := hx.form
      rw [hu, Nat.add_zero] at a0
      rw [hu] at hx
      have hxz : x0.length ≤ 1500 := H15.out x0 (List.mem_cons_self ..)
      have a1 := hk.keep a0
      have HX := Mx.hid hx
      have HA := Mx.hid a0
      have hl1 : ((x0 :: l').length : Int) = (l'.length : Int) + 1 := by simp
      have hl2 : ¬ ((x0 :: l').length = 0) := by simp
      have hl0 : (0 : Int) < ((x0 :: l').length : Int) := by omega
      have hl3 : (((x0 :: l').length : Int) == 0) = false := by rw [hl1]; simp; omega
      clear hl1 hl2 hu hx a0 HS HV HC H15 h1 h2
      generalize (x0 :: l').length = ll at *
      by_cases h20 : x0.length < 20
      · have e1 : decide ((x0.length : Int) < 20) = true := decide_eq_true (by omega)
        go_wp2_with (first | ((with_reducible show wpList _ _ _ _ _ _); refine wpl_want rfl ?_) | (go_at_call 5; refine (first10_any _ (HL.out _ hk.bare) (HI.out _ hk.bare)).mono ?_; rintro e wf ⟨rfl, hkf⟩; replace hk := hk.call0 hkf))
        go_ret
        exact ⟨rfl, hk.below⟩
      · have e1 : decide ((x0.length : Int) < 20) = false := decide_eq_false (by omega)
        have hk0 := hk.addNil 25 1
        go_wp2_with (first | ((with_reducible show wpList _ _ _ _ _ _); refine wpl_want rfl ?_))
        go_loopw [9, 10] (fun x y wr => ∃ i : Nat, y = .int .i64 i ∧ i ≤ k ∧ St w wr [⟨x, 25, 1, i, List.replicate i (.slice xo x0.length xc)⟩, pbr (.slice bo B.length bc) B] []) (fun _ y _ => k - (intOf y).toNat)
        case atStart => exact ⟨0, rfl, by omega, hk0⟩
        case round =>
          clear hk0 a1 hk
          obtain ⟨i, rfl, hi, hk⟩ := hrel
          have a1 := hk.keep HA.out
          by_cases hlt : i < k
          · have hik : (i : Int) < (k : Int) := by omega
            go_wp2_with (at_builtin; refine wpl_app rfl _ _ 22 rfl Tryd.elBs (hk.alloc _) rfl (by exact Sl.one _ _ _) (by intro u hu; simp at hu; subst hu; rfl) (by omega) ?_; intro v6 w6 hs6 _)
            go_roundw
            case rel => exact ⟨i + 1, by go_num, by omega, hs6.cast rfl (by rw [List.replicate_succ'])⟩
            case measure => simp [intOf]; omega
          · obtain rfl : i = k := by omega
            have hLL : LL wr _ (List.replicate i x0) := LL.rep hk.sl0 (hk.old HX.out)
            have HW := Mx.hid (pwrite_any _ (List.replicate i x0) wr hLL (by simp; omega) (fun x hx => by rw [List.eq_of_mem_replicate hx]; omega) (HL.out _ hk.bare) (HI.out _ hk.bare))
            have HPS := Mx.hid (pack_same (x := x0) (by omega) (by omega) hk1 (n := i) (by omega))
            have HM2 := Mx.hid (mayE_rep HME.out (List.mem_cons_self ..) i)
            clear hLL a1
            go_wp2_with (first | ((with_reducible show wpList _ _ _ _ _ _); refine wpl_want rfl ?_))
            refine HW.out.mono ?_
            unfold PkwPost
            rintro e w4 (⟨_, vc, rfl, hkc⟩ | ⟨h4, _⟩)
            case inr => rw [HM2.out] at h4; cases h4
            replace hk := hk.call1 hkc
            obtain ⟨co, cc, rfl, _⟩ := id hkc.sl0
            clear hkc HW
            generalize packL (List.replicate i x0) = C at *
            obtain ⟨q, hq⟩ : ∃ q, (i + 8) / 9 = q := ⟨_, rfl⟩
            have hq3 : q ≤ 3 := by omega
            obtain ⟨M, hM⟩ : ∃ M, (x0.length + 4) * q = M := ⟨_, rfl⟩
            have hM5 : M ≤ 4512 := by rw [← hM]; have := Nat.mul_le_mul (show x0.length + 4 ≤ 1504 by omega) hq3; omega
            have hle := HPS.out
            rw [hq, hM] at hle
            have t1 : ((i : Int) + 8) / 9 = (q : Int) := by omega
            have t1' : ((i : Int) + 8).tdiv 9 = (q : Int) := by rw [Int.tdiv_eq_ediv_of_nonneg (by omega)]; exact t1
            have t2 : ((x0.length : Int) + 4) * (q : Int) = (M : Int) := by rw [← hM]; push_cast; rfl
            have t3 : decide ((C.length : Int) ≤ 37 + (M : Int) + 12 * (i : Int)) = true := decide_eq_true (by omega)
            have a1 := hk.keep HA.out
            have HK := Mx.hid hk
            clear HPS hM hq hle hk
            generalize x0.length = z at *
            generalize C.length = c at *
            go_wp2_with (first | ((with_reducible show wpList _ _ _ _ _ _); refine wpl_want rfl ?_) | ((go_at_call 5; refine (first10_any _ (HL.out _ HK.out.bare) (HI.out _ HK.out.bare)).mono ?_; rintro e wf ⟨rfl, hkf⟩; replace a1 := hkf.keep a1)))
            go_ret
            exact ⟨rfl, (HK.out.call0 hkf).below⟩
end Go.Proofs.YtlfdnlomlbbicaaDoor

/- The walks of a pack's reader: fail, number, take. What a source of objects answers. The walks of a pack's reader: ahead, elsewhere. The walks of a pack's reader: elsewhere. -/
import Derived.Test.YtlfdnlomlbbicaaGreatDoorJ6Held
import Derived.Test.YtlfdnlomlbbicaaGreatDoorJ7Wire
import Derived.Test.YtlfdnlomlbbicaaGreatDoorJ5RegC
import Derived.Test.YtlfdnlomlbbicaaGreatDoorJ4Lib3
import Derived.Test.YtlfdnlomlbbicaaGreatDoorJ27ShaH
namespace Go.Proofs.YtlfdnlomlbbicaaGreatDoor
open Go.RowKit Go.Mx

/-- The reader's variable. -/
abbrev prd (g : Nat) (vb vr base vo vw : Value) (e : Int) : Row :=
  ⟨.slice (some ⟨g, 0, none⟩) 1 1, 66, 6, 1, [vb, vr, base, vo, vw, .int .i64 e]⟩

theorem pfail_any (w0 w : World) (R : List Row) (Q : List Rd) (g : Nat) (vb vr base vo vw : Value) (e x : Int) (hs : St w0 w (prd g vb vr base vo vw e :: R) Q) :
    Calls Tryz.prog 66 #[.pointer (some ⟨g, 0, none⟩), .int .i64 x] w fun r w' => r = .returned (.tuple #[]) ∧ St w0 w' (prd g vb vr base vo vw (if e = 0 then x else e) :: R) Q := by
  have c5 : w.cell? ⟨g, 5, none⟩ = some (.int .i64 e) := hs.rcell (List.mem_cons_self ..) rfl
  by_cases h : e = 0
  · subst h
    rw [if_pos rfl]
    go_enter Tryz.func66, Tryz.ntmps66
    go_wp2_with ((with_reducible show wpList _ _ _ _ _ _); refine wpl_store1 rfl 27 _ _ rfl hs (5) rfl (.int .i64 x) rfl rfl (by kernel_rfl) (by simp) rfl ?_; intro w2 hs2)
    go_end0
    exact ⟨rfl, hs2⟩
  · rw [if_neg h]
    have h' : (e == 0) = false := by simpa using h
    go_enter Tryz.func66, Tryz.ntmps66
    go_wp2_with fail
    go_end0
    exact ⟨rfl, hs⟩

def PNumPost (w0 : World) (R : List Row) (Q : List Rd) (g : Nat) (vb base vo vw : Value) (l : List UInt8) (e : Ending) (w' : World) : Prop :=
  ∃ v : Value, e = .returned (.int .i64 (nmN l : Int)) ∧ Sl w0 1 v (l.drop (nmJ l)).length (bs (l.drop (nmJ l))) ∧ St w0 w' (prd g vb v base vo vw (nmE l) :: R) Q

set_option maxHeartbeats 1000000 in
theorem pnumber_go (w0 w : World) (R : List Row) (Q : List Rd) (g : Nat) (vb v base vo vw : Value) (l : List UInt8) (hs : St w0 w (prd g vb v base vo vw 0 :: R) Q) (hl : Sl w0 1 v l.length (bs l)) (hn : l.length ≤ 140737488355328) :
    Calls Tryz.prog 67 #[.pointer (some ⟨g, 0, none⟩)] w (PNumPost w0 R Q g vb base vo vw l) := by
  have c0 : w.cell? ⟨g, 1, none⟩ = some v := hs.rcell (List.mem_cons_self ..) rfl
  have c1 : w.cell? ⟨g, 5, none⟩ = some (.int .i64 0) := hs.rcell (List.mem_cons_self ..) rfl
  go_enter Tryz.func67, Tryz.ntmps67
  go_wp2_with fail
  refine (get_any v l 0 _ (hs.old hl) hn).mono ?_
  rintro e w1 ⟨rfl, hk⟩
  rw [nm_eq]
  have hs1 := hs.call0 hk
  have hJ : nmJ l ≤ l.length := by
    by_cases h : nmE l = 0
    · exact (nm_good h).2.1
    · rw [(nm_bad h).2]; omega
  obtain ⟨x, p1, q1⟩ := hl.cutRun Tryz.elU8 (some (.int .i64 (nmJ l : Int))) none (nmJ l) l.length (.inr ⟨.i64, rfl⟩) (.inl ⟨rfl, rfl⟩) hJ (Nat.le_refl _)
  have hx := Sl.cutB (q1 _ hl) (Nat.le_refl _) hJ
  rw [List.take_length] at hx
  generalize hXX : l.drop (nmJ l) = X at hx ⊢
  have HX := Mx.hid hx
  obtain ⟨xo, xc, rfl, _⟩ := hx
  generalize hXL : X.length = xl at *
  clear q1 hl c0 c1
  have hf := pfail_any w0 w1 R Q g vb v base vo vw 0 (nmE l) hs1
  rw [if_pos rfl] at hf
  have HF := Mx.hid hf
  clear hf
  generalize hjj : (nmJ l : Int) = jj at p1 ⊢
  generalize hnn : (nmN l : Int) = nn
  generalize hee : nmE l = ee at *
  go_wp2_with (first | (go_at_call 66; refine HF.out.mono ?_; rintro e w2 ⟨rfl, hs2⟩; have c3 : w2.cell? ⟨g, 1, none⟩ = some v := hs2.rcell (List.mem_cons_self ..) rfl) | ((with_reducible show wpList _ _ _ _ _ _); refine wpl_store1 rfl 25 _ _ rfl hs2 (1) rfl (.slice xo xl xc) rfl rfl (by kernel_rfl) (by simp) rfl ?_; intro w3 hs3))
  go_ret
  unfold PNumPost
  rw [hXX, hXL, hnn, hee]
  exact ⟨.slice xo xl xc, rfl, HX.out, hs3⟩

/-- A reader that met an error says nothing. -/
theorem pnumber_stop (w : World) (g : Nat) (e : Int) (c1 : w.cell? ⟨g, 5, none⟩ = some (.int .i64 e)) (he : e ≠ 0) :
    Calls Tryz.prog 67 #[.pointer (some ⟨g, 0, none⟩)] w fun r w' => r = .returned (.int .i64 0) ∧ St w w' [] [] := by
  have he' : (e != 0) = true := by simpa using he
  go_enter Tryz.func67, Tryz.ntmps67
  go_wp2_with fail
  go_ret
  exact ⟨rfl, St.refl _⟩

set_option maxHeartbeats 1000000 in
theorem ptake_ok (w0 w : World) (R : List Row) (Q : List Rd) (g : Nat) (vb v base vo vw : Value) (l : List UInt8) (n : Nat) (hs : St w0 w (prd g vb v base vo vw 0 :: R) Q) (hl : Sl w0 1 v l.length (bs l)) (hn : n ≤ l.length) :
    Calls Tryz.prog 65 #[.pointer (some ⟨g, 0, none⟩), .int .i64 (n : Int)] w fun e w' => ∃ x y, e = .returned x ∧ Sl w0 1 x (l.take n).length (bs (l.take n)) ∧ Sl w0 1 y (l.drop n).length (bs (l.drop n)) ∧ St w0 w' (prd g vb y base vo vw 0 :: R) Q := by
  have c0 : w.cell? ⟨g, 1, none⟩ = some v := hs.rcell (List.mem_cons_self ..) rfl
  have c1 : w.cell? ⟨g, 5, none⟩ = some (.int .i64 0) := hs.rcell (List.mem_cons_self ..) rfl
  obtain ⟨x, p1, q1⟩ := hl.cutRun Tryz.elU8 none (some (.int .i64 (n : Int))) 0 n (.inl ⟨rfl, rfl⟩) (.inr ⟨.i64, rfl⟩) (Nat.zero_le _) hn
  obtain ⟨y, p2, q2⟩ := hl.cutRun Tryz.elU8 (some (.int .i64 (n : Int))) none n l.length (.inr ⟨.i64, rfl⟩) (.inl ⟨rfl, rfl⟩) hn (Nat.le_refl _)
  have hx := Sl.cutB (q1 _ hl) hn (Nat.zero_le _)
  have hy := Sl.cutB (q2 _ hl) (Nat.le_refl _) hn
  rw [List.take_length] at hy
  rw [List.drop_zero] at hx
  have hd : decide ((l.length : Int) < (n : Int)) = false := decide_eq_false (by omega)
  have HX := Mx.hid hx
  have HY := Mx.hid hy
  obtain ⟨yo, yc, rfl, _⟩ := id hy
  obtain ⟨vo', vc', rfl, _⟩ := id hl
  clear hx hy hl q1 q2
  generalize (l.drop n).length = yl at *
  generalize l.length = ll at *
  go_enter Tryz.func65, Tryz.ntmps65
  go_wp2_with ((with_reducible show wpList _ _ _ _ _ _); refine wpl_store1 rfl 25 _ _ rfl hs (1) rfl (.slice yo yl yc) rfl rfl (by kernel_rfl) (by simp) rfl ?_; intro w3 hs3)
  go_ret
  exact ⟨x, _, rfl, HX.out, HY.out, hs3⟩

theorem ptake_short (w0 w : World) (R : List Row) (Q : List Rd) (g : Nat) (vb v base vo vw : Value) (l : List UInt8) (n : Nat) (hs : St w0 w (prd g vb v base vo vw 0 :: R) Q) (hl : Sl w0 1 v l.length (bs l)) (hn : l.length < n) :
    Calls Tryz.prog 65 #[.pointer (some ⟨g, 0, none⟩), .int .i64 (n : Int)] w fun e w' => e = .returned (.slice none 0 0) ∧ St w0 w' (prd g vb v base vo vw 2 :: R) Q := by
  have c0 : w.cell? ⟨g, 1, none⟩ = some v := hs.rcell (List.mem_cons_self ..) rfl
  have hd : decide ((l.length : Int) < (n : Int)) = true := decide_eq_true (by omega)
  have hf := pfail_any w0 w R Q g vb v base vo vw 0 2 hs
  rw [if_pos rfl] at hf
  have HF := Mx.hid hf
  obtain ⟨vo', vc', rfl, _⟩ := id hl
  clear hl hf
  generalize l.length = ll at *
  go_enter Tryz.func65, Tryz.ntmps65
  go_wp2_with (go_at_call 66; refine HF.out.mono ?_; rintro e w2 ⟨rfl, hs2⟩; have c3 : w2.cell? ⟨g, 5, none⟩ = some (.int .i64 2) := hs2.rcell (List.mem_cons_self ..) rfl)
  go_ret
  exact ⟨rfl, hs2⟩

/-- A reader that met an error takes nothing. -/
theorem ptake_stop (w0 w : World) (R : List Row) (Q : List Rd) (g : Nat) (vb v base vo vw : Value) (l : List UInt8) (n : Nat) (e : Int) (hs : St w0 w (prd g vb v base vo vw e :: R) Q) (hl : Sl w0 1 v l.length (bs l)) (he : e ≠ 0) :
    Calls Tryz.prog 65 #[.pointer (some ⟨g, 0, none⟩), .int .i64 (n : Int)] w fun r w' => r = .returned (.slice none 0 0) ∧ St w0 w' (prd g vb v base vo vw e :: R) Q := by
  have c0 : w.cell? ⟨g, 1, none⟩ = some v := hs.rcell (List.mem_cons_self ..) rfl
  have c1 : w.cell? ⟨g, 5, none⟩ = some (.int .i64 e) := hs.rcell (List.mem_cons_self ..) rfl
  have he' : (e != 0) = true := by simpa using he
  obtain ⟨vo', vc', rfl, _⟩ := id hl
  by_cases hn : l.length < n
  · have hd : decide ((l.length : Int) < (n : Int)) = true := decide_eq_true (by omega)
    have hf := pfail_any w0 w R Q g vb _ base vo vw e 2 hs
    rw [if_neg he] at hf
    have HF := Mx.hid hf
    clear hl hf
    generalize l.length = ll at *
    go_enter Tryz.func65, Tryz.ntmps65
    go_wp2_with (go_at_call 66; refine HF.out.mono ?_; rintro r w2 ⟨rfl, hs2⟩; have c3 : w2.cell? ⟨g, 5, none⟩ = some (.int .i64 e) := hs2.rcell (List.mem_cons_self ..) rfl)
    go_ret
    exact ⟨rfl, hs2⟩
  · have hd : decide ((l.length : Int) < (n : Int)) = false := decide_eq_false (by omega)
    clear hl
    generalize l.length = ll at *
    go_enter Tryz.func65, Tryz.ntmps65
    go_wp2_with fail
    go_ret
    exact ⟨rfl, hs⟩
end Go.Proofs.YtlfdnlomlbbicaaGreatDoor

namespace Go.Proofs.YtlfdnlomlbbicaaGreatDoor
open Go.RowKit Go.Mx
def SourceAns (o : Option (List UInt8)) (w : World) (e : Ending) (w' : World) : Prop :=
  match o with
  | some b => ∃ v, e = .returned (.tuple #[v, .bool true]) ∧ St w w' [(⟨v, 5, 1, (b).length, bs (b)⟩ : Row)] []
  | none => e = .returned (.tuple #[.slice none 0 0, .bool false]) ∧ St w w' [] []
end Go.Proofs.YtlfdnlomlbbicaaGreatDoor

namespace Go.Mx
open Go Go.RowKit
/-- The cells of an index's row; of all rows. -/
def rwc (x : List UInt8) (p d : Nat) : List Value := [.string (idB x), .int .i64 (p : Int), .int .i64 (d : Int)]
def rws : List (List UInt8 × Nat) → List Nat → List Value
  | p :: pre, q :: pl => rwc p.1 q p.2 ++ rws pre pl
  | _, _ => []
theorem rws_snoc : ∀ (pre : List (List UInt8 × Nat)) (pl : List Nat) (x : List UInt8) (d q : Nat), pl.length = pre.length → rws (pre ++ [(x, d)]) (pl ++ [q]) = rws pre pl ++ rwc x q d
  | [], [], x, d, q, _ => by simp [rws]
  | p :: pre, k :: pl, x, d, q, h => by
    rw [List.cons_append, List.cons_append, rws, rws, rws_snoc pre pl x d q (by simpa using h), List.append_assoc]
theorem rws_get : ∀ (pre : List (List UInt8 × Nat)) (pl : List Nat) (k : Nat) (h : k < pre.length), pl.length = pre.length → (rws pre pl)[k * 3 + 2]? = some (.int .i64 (pre[k].2 : Int))
  | p :: pre, q :: pl, 0, _, _ => rfl
  | p :: pre, q :: pl, k + 1, h, hl => by
    rw [rws, show (k + 1) * 3 + 2 = (rwc p.1 q p.2).length + (k * 3 + 2) by simp [rwc]; omega, List.getElem?_append_right (by omega), Nat.add_sub_cancel_left]
    exact rws_get pre pl k (by simpa using h) (by simpa using hl)
def ahE (pre : List (List UInt8 × Nat)) (l : List UInt8) : Int :=
  if nmE l ≠ 0 then nmE l else if nmN l < 1 ∨ pre.length < nmN l then 7 else if 8 ≤ (pre.getD (pre.length - nmN l) ([], 0)).2 then 14 else 0
end Go.Mx
namespace Go.Proofs.YtlfdnlomlbbicaaGreatDoor
open Go.RowKit Go.Mx

abbrev orow (vo : Value) (n : Nat) (us : List Value) : Row := ⟨vo, 25, 1, n, us⟩
abbrev wrow (vw : Value) (n : Nat) (cs : List Value) : Row := ⟨vw, 49, 3, n, cs⟩

def AhPost (w0 : World) (R : List Row) (Q : List Rd) (g : Nat) (vb base vo vw : Value) (pre : List (List UInt8 × Nat)) (pl : List Nat) (us : List Value) (l : List UInt8) (e : Ending) (w' : World) : Prop :=
  ∃ (x : Value) (d : Nat) (y : Value), e = .returned (.tuple #[x, .int .i64 (d : Int)]) ∧ Sl w0 1 y (l.drop (nmJ l)).length (bs (l.drop (nmJ l))) ∧ St w0 w' (prd g vb y base vo vw (ahE pre l) :: orow vo pre.length us :: wrow vw pre.length (rws pre pl) :: R) Q ∧
    (ahE pre l = 0 → us[pre.length - nmN l]? = some x ∧ (pre.getD (pre.length - nmN l) ([], 0)).2 = d)

set_option maxRecDepth 100000 in
set_option maxHeartbeats 2000000 in
theorem pahead_any (w0 w : World) (R : List Row) (Q : List Rd) (g : Nat) (vb v base vo vw : Value) (pre : List (List UInt8 × Nat)) (pl : List Nat) (us : List Value) (l : List UInt8) (hs : St w0 w (prd g vb v base vo vw 0 :: orow vo pre.length us :: wrow vw pre.length (rws pre pl) :: R) Q)
    (hpl : pl.length = pre.length) (hus : us.length = pre.length) (hm : pre.length ≤ 512) (hl : Sl w0 1 v l.length (bs l)) (hn : l.length ≤ 140737488355328) :
    Calls Tryz.prog 94 #[.pointer (some ⟨g, 0, none⟩)] w (AhPost w0 R Q g vb base vo vw pre pl us l) := by
  have HN := Mx.hid (pnumber_go w0 w _ Q g vb v base vo vw l hs hl hn)
  have HUS := Mx.hid hus
  have hgood := fun (h : nmE l = 0) => (nm_good h).1
  have hbad := fun (h : nmE l ≠ 0) => (nm_bad h).1
  have hA : ahE pre l = if nmE l ≠ 0 then nmE l else if nmN l < 1 ∨ pre.length < nmN l then 7 else if 8 ≤ (pre.getD (pre.length - nmN l) ([], 0)).2 then 14 else 0 := rfl
  have HP := Mx.hid (fun (e : Ending) (w' : World) (h : ∃ (x : Value) (d : Nat) (y : Value), e = .returned (.tuple #[x, .int .i64 (d : Int)]) ∧ Sl w0 1 y (l.drop (nmJ l)).length (bs (l.drop (nmJ l))) ∧ St w0 w' (prd g vb y base vo vw (ahE pre l) :: orow vo pre.length us :: wrow vw pre.length (rws pre pl) :: R) Q ∧ (ahE pre l = 0 → us[pre.length - nmN l]? = some x ∧ (pre.getD (pre.length - nmN l) ([], 0)).2 = d)) => (show AhPost w0 R Q g vb base vo vw pre pl us l e w' from h))
  generalize ahE pre l = A at *
  generalize hEE : nmE l = E at *
  generalize hNN : nmN l = N at *
  clear hs hl hn hus
  go_enter Tryz.func94, Tryz.ntmps94
  go_wp2_with fail
  refine HN.out.mono ?_
  unfold PNumPost
  rintro e w1 ⟨y, rfl, hy, hs⟩
  rw [hEE] at hs
  rw [hNN]
  have HY := Mx.hid hy
  obtain ⟨oo, oc, rfl, _⟩ := id hs.sl1
  clear HN hy hNN hEE
  have c3 : w1.cell? ⟨g, 3, none⟩ = some (.slice oo pre.length oc) := hs.rcell (List.mem_cons_self ..) rfl
  by_cases hb : N < 1 ∨ pre.length < N
  · have hf := pfail_any w0 w1 _ Q g vb y base _ vw E 7 hs
    have hA' : A = if E = 0 then 7 else E := by
      rw [hA]
      by_cases h : E = 0
      · rw [if_neg (by simpa using h), if_pos hb, if_pos h]
      · rw [if_pos h, if_neg h]
    rw [← hA'] at hf
    have HF := Mx.hid hf
    have HA : Hid (A ≠ 0) := Mx.hid (by rw [hA']; split <;> omega)
    clear hf hA hA' hgood hbad
    by_cases h1 : N < 1
    · have d1 : decide ((N : Int) < 1) = true := decide_eq_true (by omega)
      clear hb h1
      go_wp2_with (first | ((with_reducible show wpList _ _ _ _ _ _); refine wpl_want rfl ?_) | (go_at_call 66; refine HF.out.mono ?_; rintro e w2 ⟨rfl, hs2⟩))
      go_ret2
      exact HP.out _ _ ⟨_, 0, y, rfl, HY.out, hs2, fun h => absurd h HA.out⟩
    · have d1 : decide ((N : Int) < 1) = false := decide_eq_false (by omega)
      have d2 : decide (pre.length < N) = true := decide_eq_true (by omega)
      clear hb h1
      go_wp2_with (first | ((with_reducible show wpList _ _ _ _ _ _); refine wpl_want rfl ?_) | (go_at_call 66; refine HF.out.mono ?_; rintro e w2 ⟨rfl, hs2⟩))
      go_ret2
      exact HP.out _ _ ⟨_, 0, y, rfl, HY.out, hs2, fun h => absurd h HA.out⟩
  · have hE : E = 0 := by
      by_cases h : E = 0
      · exact h
      · have := hbad h; omega
    subst hE
    rw [if_neg (by simp), if_neg hb] at hA
    obtain ⟨K, hK⟩ : ∃ K, pre.length - N = K := ⟨_, rfl⟩
    have hKl : K < pre.length := by omega
    have hk : (pre.length : Int) - (N : Int) = (K : Int) := by omega
    rw [hK] at hA
    have HK := Mx.hid hK
    have hpk : pre.getD K ([], 0) = pre[K] := by rw [List.getD_eq_getElem?_getD, List.getElem?_eq_getElem hKl]; rfl
    rw [hpk] at hA
    have HPK := Mx.hid (congrArg Prod.snd hpk)
    have hg := rws_get pre pl K hKl hpl
    have hu : us[K]? = some us[K] := List.getElem?_eq_getElem (by rw [HUS.out]; exact hKl)
    have d1 : decide ((N : Int) < 1) = false := decide_eq_false (by omega)
    have d2 : decide (pre.length < N) = false := decide_eq_false (by omega)
    obtain ⟨bo, bc, hvo, _⟩ := hs.swap.form0 (by omega)
    cases hvo
    obtain ⟨bw, wc, rfl, _⟩ := (hs.perm (List.perm_append_comm (l₁ := [_, _]) (l₂ := [_])  |>.append_right R)).form0 (by omega)
    have e1 : w1.cell? ⟨bo, K, none⟩ = some us[K] := hs.rcell (List.mem_cons_of_mem _ (List.mem_cons_self ..)) hu
    have e2 : w1.cell? ⟨bw, K * 3 + 2, none⟩ = some (.int .i64 (pre[K].2 : Int)) := hs.rcell (List.mem_cons_of_mem _ (List.mem_cons_of_mem _ (List.mem_cons_self ..))) hg
    have c4 : w1.cell? ⟨g, 4, none⟩ = some (.slice (some ⟨bw, 0, none⟩) pre.length wc) := hs.rcell (List.mem_cons_self ..) rfl
    have HU := Mx.hid hu
    have hKL : (K : Int) < (pre.length : Int) := by omega
    generalize us[K] = u at *
    generalize pre[K].2 = D at *
    have HG := Mx.hid hg
    clear hb hg hu hpk hgood hbad hK hKl
    by_cases h8 : 8 ≤ D
    · have hf := pfail_any w0 w1 _ Q g vb y base _ _ 0 14 hs
      rw [if_pos rfl] at hf
      rw [if_pos h8] at hA
      subst hA
      have HF := Mx.hid hf
      have d3 : decide (8 ≤ (D : Int)) = true := decide_eq_true (by omega)
      clear hf h8
      go_wp2_with (first | ((with_reducible show wpList _ _ _ _ _ _); refine wpl_want rfl ?_) | (go_at_call 66; refine HF.out.mono ?_; rintro e w2 ⟨rfl, hs2⟩))
      refine wp_region_C (fun W' => St w0 W' (prd g vb y base (.slice (some ⟨bo, 0, none⟩) pre.length oc) (.slice (some ⟨bw, 0, none⟩) pre.length wc) 14 :: orow (.slice (some ⟨bo, 0, none⟩) pre.length oc) pre.length us :: wrow (.slice (some ⟨bw, 0, none⟩) pre.length wc) pre.length (rws pre pl) :: R) Q) (by kernel_rfl) (by kernel_rfl) (by exact hs2.drew) ?_
      repeat ((first | (refine cq_y0 (v := ?_) (by with_reducible rfl) ?_ ?_; rotate_left 1; (focus (intro wq hq; (try dsimp only at hq); (have f1 : wq.cell? ⟨bo, K, none⟩ = some u := hq.rcell (List.mem_cons_of_mem _ (List.mem_cons_self ..)) HU.out; have f2 : wq.cell? ⟨bw, K * 3 + 2, none⟩ = some (.int .i64 (D : Int)) := hq.rcell (List.mem_cons_of_mem _ (List.mem_cons_of_mem _ (List.mem_cons_self ..))) HG.out; have f3 : wq.cell? ⟨g, 3, none⟩ = some (.slice (some ⟨bo, 0, none⟩) pre.length oc) := hq.rcell (List.mem_cons_self ..) rfl; have f4 : wq.cell? ⟨g, 4, none⟩ = some (.slice (some ⟨bw, 0, none⟩) pre.length wc) := hq.rcell (List.mem_cons_self ..) rfl); go_simp; (first | done | with_reducible rfl | fail)))) | (refine cq_no (by go_simp; first | done | (intro h9; cases h9)) ?_) | (refine cq_yes (v := ?_) (by go_simp) ?_ ?_; rotate_left 1; (focus (intro wq hq; (try dsimp only at hq); (have f1 : wq.cell? ⟨bo, K, none⟩ = some u := hq.rcell (List.mem_cons_of_mem _ (List.mem_cons_self ..)) HU.out; have f2 : wq.cell? ⟨bw, K * 3 + 2, none⟩ = some (.int .i64 (D : Int)) := hq.rcell (List.mem_cons_of_mem _ (List.mem_cons_of_mem _ (List.mem_cons_self ..))) HG.out; have f3 : wq.cell? ⟨g, 3, none⟩ = some (.slice (some ⟨bo, 0, none⟩) pre.length oc) := hq.rcell (List.mem_cons_self ..) rfl; have f4 : wq.cell? ⟨g, 4, none⟩ = some (.slice (some ⟨bw, 0, none⟩) pre.length wc) := hq.rcell (List.mem_cons_self ..) rfl); go_simp; (first | done | with_reducible rfl | fail))))); (try simp only [Act.put, List.setIfInBounds_toArray, List.set_cons_zero, List.set_cons_succ]))
      refine cq_nil ?_
      intro wq hq
      (try dsimp only at hq)
      go_wp2_with fail
      go_ret2
      exact HP.out _ _ ⟨_, D, y, rfl, HY.out, hq, fun h => by cases h⟩
    · rw [if_neg h8] at hA
      subst hA
      have d3 : decide (8 ≤ (D : Int)) = false := decide_eq_false (by omega)
      clear h8
      go_wp2_with (first | ((with_reducible show wpList _ _ _ _ _ _); refine wpl_want rfl ?_))
      refine wp_region_C (fun W' => St w0 W' (prd g vb y base (.slice (some ⟨bo, 0, none⟩) pre.length oc) (.slice (some ⟨bw, 0, none⟩) pre.length wc) 0 :: orow (.slice (some ⟨bo, 0, none⟩) pre.length oc) pre.length us :: wrow (.slice (some ⟨bw, 0, none⟩) pre.length wc) pre.length (rws pre pl) :: R) Q) (by kernel_rfl) (by kernel_rfl) (by exact hs.drew) ?_
      repeat ((first | (refine cq_y0 (v := ?_) (by with_reducible rfl) ?_ ?_; rotate_left 1; (focus (intro wq hq; (try dsimp only at hq); (have f1 : wq.cell? ⟨bo, K, none⟩ = some u := hq.rcell (List.mem_cons_of_mem _ (List.mem_cons_self ..)) HU.out; have f2 : wq.cell? ⟨bw, K * 3 + 2, none⟩ = some (.int .i64 (D : Int)) := hq.rcell (List.mem_cons_of_mem _ (List.mem_cons_of_mem _ (List.mem_cons_self ..))) HG.out; have f3 : wq.cell? ⟨g, 3, none⟩ = some (.slice (some ⟨bo, 0, none⟩) pre.length oc) := hq.rcell (List.mem_cons_self ..) rfl; have f4 : wq.cell? ⟨g, 4, none⟩ = some (.slice (some ⟨bw, 0, none⟩) pre.length wc) := hq.rcell (List.mem_cons_self ..) rfl); go_simp; (first | done | with_reducible rfl | fail)))) | (refine cq_no (by go_simp; first | done | (intro h9; cases h9)) ?_) | (refine cq_yes (v := ?_) (by go_simp) ?_ ?_; rotate_left 1; (focus (intro wq hq; (try dsimp only at hq); (have f1 : wq.cell? ⟨bo, K, none⟩ = some u := hq.rcell (List.mem_cons_of_mem _ (List.mem_cons_self ..)) HU.out; have f2 : wq.cell? ⟨bw, K * 3 + 2, none⟩ = some (.int .i64 (D : Int)) := hq.rcell (List.mem_cons_of_mem _ (List.mem_cons_of_mem _ (List.mem_cons_self ..))) HG.out; have f3 : wq.cell? ⟨g, 3, none⟩ = some (.slice (some ⟨bo, 0, none⟩) pre.length oc) := hq.rcell (List.mem_cons_self ..) rfl; have f4 : wq.cell? ⟨g, 4, none⟩ = some (.slice (some ⟨bw, 0, none⟩) pre.length wc) := hq.rcell (List.mem_cons_self ..) rfl); go_simp; (first | done | with_reducible rfl | fail))))); (try simp only [Act.put, List.setIfInBounds_toArray, List.set_cons_zero, List.set_cons_succ]))
      refine cq_nil ?_
      intro wq hq
      (try dsimp only at hq)
      go_wp2_with fail
      go_ret2
      exact HP.out _ _ ⟨_, D, y, rfl, HY.out, hq, fun _ => by rw [HK.out]; exact ⟨HU.out, HPK.out⟩⟩

/-- What reads by a name: its answers. -/
structure BaseOk (fb : FuncId) (caps : Array Value) (f : ByteArray → Option (List UInt8)) (w0 : World) : Prop where
  ent : ∀ (args : Array Value) (w : World), Sem.run Tryz.prog (callFunc fb args) w = .ok (.enter fb args) w
  ans : ∀ (w : World) (R : List Row) (Q : List Rd) (id : ByteArray), St w0 w R Q → Calls Tryz.prog fb (#[.string id] ++ caps) w (SourceAns (f id) w)
end Go.Proofs.YtlfdnlomlbbicaaGreatDoor

namespace Go.Mx
open Go Go.RowKit
/-- What an object elsewhere is. -/
def elF (f : ByteArray → Option (List UInt8)) (l : List UInt8) : Option (List UInt8) := f (str (hexL (l.take 32)))
def elE (f : ByteArray → Option (List UInt8)) (l : List UInt8) : Int :=
  if l.length < 32 then 2 else match elF f l with | none => 7 | some x => if idB x ≠ str (hexL (l.take 32)) then 5 else 0
end Go.Mx
namespace Go.Proofs.YtlfdnlomlbbicaaGreatDoor
open Go.RowKit Go.Mx
def ElPost (w0 : World) (R : List Row) (Q : List Rd) (g : Nat) (vb base vo vw : Value) (f : ByteArray → Option (List UInt8)) (l : List UInt8) (e : Ending) (w' : World) : Prop :=
  (elE f l ≠ 0 ∧ ∃ x y r, e = .returned x ∧ Sl w0 1 y (List.length r) (bs r) ∧ St w0 w' (prd g vb y base vo vw (elE f l) :: R) Q) ∨
  (elE f l = 0 ∧ 32 ≤ l.length ∧ ∃ x b y, elF f l = some b ∧ e = .returned x ∧ Sl w0 1 y (l.drop 32).length (bs (l.drop 32)) ∧ St w0 w' (prd g vb y base vo vw 0 :: R) (⟨x, 1, b.length, bs b⟩ :: Q))

set_option maxRecDepth 100000 in
set_option maxHeartbeats 2000000 in
theorem pelse_any (w0 w : World) (R : List Row) (Q : List Rd) (g : Nat) (vb v vo vw : Value) (fb : FuncId) (caps : Array Value) (f : ByteArray → Option (List UInt8)) (l : List UInt8)
    (hs : St w0 w (prd g vb v (.func (.func fb) #[] caps) vo vw 0 :: R) Q) (hl : Sl w0 1 v l.length (bs l)) (hn : l.length ≤ 140737488355328) (hB : BaseOk fb caps f w0) (hbz : ∀ id x, f id = some x → x.length ≤ 1000000000) (hL : Laid w0) :
    Calls Tryz.prog 95 #[.pointer (some ⟨g, 0, none⟩)] w (ElPost w0 R Q g vb (.func (.func fb) #[] caps) vo vw f l) := by
  by_cases h32 : l.length < 32
  · have HT := Mx.hid (ptake_short w0 w R Q g vb v _ vo vw l 32 hs hl h32)
    have hE : elE f l = 2 := by unfold elE; rw [if_pos h32]
    have HP := Mx.hid (fun (e : Ending) (w' : World) (h : (elE f l ≠ 0 ∧ ∃ x y r, e = .returned x ∧ Sl w0 1 y (List.length r) (bs r) ∧ St w0 w' (prd g vb y (.func (.func fb) #[] caps) vo vw (elE f l) :: R) Q) ∨ (elE f l = 0 ∧ 32 ≤ l.length ∧ ∃ x b y, elF f l = some b ∧ e = .returned x ∧ Sl w0 1 y (l.drop 32).length (bs (l.drop 32)) ∧ St w0 w' (prd g vb y (.func (.func fb) #[] caps) vo vw 0 :: R) (⟨x, 1, b.length, bs b⟩ :: Q))) => (show ElPost w0 R Q g vb (.func (.func fb) #[] caps) vo vw f l e w' from h))
    generalize elE f l = E at *
    subst hE
    have HLV := Mx.hid hl
    clear hs hl h32
    go_enter Tryz.func95, Tryz.ntmps95
    go_wp2_with fail
    refine HT.out.mono ?_
    rintro e w1 ⟨rfl, hs⟩
    go_wp2_with fail
    refine (shex_any _ [] w1 (Sl.nil w1 1) (by simp)).mono ?_
    rintro e w2 ⟨rfl, hk⟩
    replace hs := hs.call0 hk
    have c5 : w2.cell? ⟨g, 5, none⟩ = some (.int .i64 2) := hs.rcell (List.mem_cons_self ..) rfl
    go_wp2_with fail
    go_ret
    exact HP.out _ _ (.inl ⟨by simp, _, _, _, rfl, HLV.out, hs⟩)
  · have HT := Mx.hid (ptake_ok w0 w R Q g vb v _ vo vw l 32 hs hl (by omega))
    have hE : elE f l = match elF f l with | none => 7 | some x => if idB x ≠ str (hexL (l.take 32)) then 5 else 0 := by unfold elE; rw [if_neg h32]
    have HF : Hid (f (str (hexL (l.take 32))) = elF f l) := rfl
    have HLL := Mx.hid (show 32 ≤ l.length by omega)
    have htl : (l.take 32).length ≤ 1000000000 := by rw [List.length_take]; omega
    have HZ := Mx.hid (fun x (h : elF f l = some x) => hbz _ x h)
    have HP := Mx.hid (fun (e : Ending) (w' : World) (h : (elE f l ≠ 0 ∧ ∃ x y r, e = .returned x ∧ Sl w0 1 y (List.length r) (bs r) ∧ St w0 w' (prd g vb y (.func (.func fb) #[] caps) vo vw (elE f l) :: R) Q) ∨ (elE f l = 0 ∧ 32 ≤ l.length ∧ ∃ x b y, elF f l = some b ∧ e = .returned x ∧ Sl w0 1 y (l.drop 32).length (bs (l.drop 32)) ∧ St w0 w' (prd g vb y (.func (.func fb) #[] caps) vo vw 0 :: R) (⟨x, 1, b.length, bs b⟩ :: Q))) => (show ElPost w0 R Q g vb (.func (.func fb) #[] caps) vo vw f l e w' from h))
    generalize elE f l = E at *
    generalize elF f l = F at *
    have HB := Mx.hid hB
    clear hs hl h32 hbz hB
    go_enter Tryz.func95, Tryz.ntmps95
    go_wp2_with fail
    refine HT.out.mono ?_
    rintro e w1 ⟨x, y, rfl, hx, hy, hs⟩
    have HY := Mx.hid hy
    go_wp2_with fail
    refine (shex_any x (l.take 32) w1 (hs.old hx) htl).mono ?_
    rintro e w2 ⟨rfl, hk⟩
    replace hs := hs.call0 hk
    generalize hID : str (hexL (l.take 32)) = idn at *
    have c5 : w2.cell? ⟨g, 5, none⟩ = some (.int .i64 0) := hs.rcell (List.mem_cons_self ..) rfl
    have c2 : w2.cell? ⟨g, 2, none⟩ = some (.func (.func fb) #[] caps) := hs.rcell (List.mem_cons_self ..) rfl
    have hb := HB.out.ans w2 _ _ idn hs
    have hcf := HB.out.ent (#[.string idn] ++ caps) w2
    rw [HF.out] at hb
    have HBB := Mx.hid hb
    clear hb hy hx hk HT
    go_wp2_with fail
    refine HBB.out.mono ?_
    unfold SourceAns
    clear hcf HBB HB c2 c5
    intro e w3 he
    cases F with
    | none =>
      obtain ⟨rfl, hk⟩ := he
      replace hE : E = 7 := hE
      subst hE
      replace hs := hs.call0 hk
      have hf := pfail_any w0 w3 _ _ g vb y _ vo vw 0 7 hs
      rw [if_pos rfl] at hf
      have HFF := Mx.hid hf
      clear hf
      go_wp2_with (go_at_call 66; refine HFF.out.mono ?_; rintro e w4 ⟨rfl, hs4⟩)
      go_ret
      exact HP.out _ _ (.inl ⟨by simp, _, _, _, rfl, HY.out, hs4⟩)
    | some b =>
      obtain ⟨vx, rfl, hk⟩ := he
      replace hE : E = if idB b ≠ idn then 5 else 0 := hE
      have hbl := HZ.out b rfl
      replace hs := (hs.call1 hk).freeze
      dsimp only at hs
      have HID := Mx.hid (id_any vx b w3 hk.sl0 (by omega) (fun w' h => hL.keep (hs.call0 h)))
      clear hk
      by_cases hi : idB b = idn
      · rw [show str (hexL (sha b)) = idn from hi] at HID
        have hE0 : E = 0 := by rw [hE]; simp [hi]
        subst hE0
        clear hE
        have ht := tx_beq (x := idn) rfl
        go_wp2_with (go_at_call 69; refine HID.out.mono ?_; rintro e w4 ⟨rfl, hk4⟩; replace hs := hs.call0 hk4)
        go_ret
        exact HP.out _ _ (.inr ⟨by trivial, HLL.out, _, b, y, by trivial, rfl, HY.out, hs⟩)
      · have hE0 : E = 5 := by rw [hE]; simp [hi]
        subst hE0
        clear hE
        have ht := tx_bne hi
        rw [show str (hexL (sha b)) = idB b from rfl] at HID
        generalize idB b = idx at *
        have HFF := Mx.hid (fun wf (h : St w3 wf [] []) => pfail_any w0 wf _ _ g vb y _ vo vw 0 5 (hs.call0 h))
        rw [if_pos rfl] at HFF
        go_wp2_with (first | (go_at_call 69; refine HID.out.mono ?_; rintro e w4 ⟨rfl, hk4⟩) | (go_at_call 66; refine (HFF.out _ hk4).mono ?_; rintro e w5 ⟨rfl, hs5⟩))
        go_ret
        exact HP.out _ _ (.inl ⟨by simp, _, _, _, rfl, HY.out, hs5.tailQ⟩)
end Go.Proofs.YtlfdnlomlbbicaaGreatDoor

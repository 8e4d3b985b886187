/- Walk of dag's Order. -/
import Derived.Test.YtojbdlbcaoeffaaDagO
import Derived.Test.YtojbdlbcaoeffaaDagF
namespace Go.Mx
open Go Go.RowKit
theorem sV_lt {L : List Nd} (hw : WF L) (hs : StB L) (k : ByteArray) : 0 ≤ sV L k ∧ sV L k ≤ 9223372036854775807 := by
  have := hs k
  unfold sV
  unfold stampL at this
  cases hf : fnd L k with
  | none => simp
  | some n =>
    rw [hf] at this
    exact ⟨(hw.par hf).2.2.1, this.2⟩
/-- Keys of the order: the latest first. -/
def kO (L : List Nd) (x : ByteArray) : Int := - sV L x
theorem fnd_key {L : List Nd} {k : ByteArray} {n : List ByteArray × Int} (h : fnd L k = some n) : k ∈ L.map Prod.fst := List.mem_map.2 ⟨_, fnd_mem h, rfl⟩
theorem strict_nodup {M : List ByteArray} (h : Strict M) : M.Nodup := by
  unfold Strict at h
  refine h.imp ?_
  intro a b hab he
  subst he
  rw [lt_irrefl] at hab
  cases hab
theorem clo_short {L : List Nd} (hw : WF L) {ids M : List ByteArray} (h : Clo L ids M) (hs : Strict M) : M.length ≤ L.length := by
  have h1 := nodup_sub (M := M) (K := L.map Prod.fst) (strict_nodup hs) fun m hm => by
    obtain ⟨i, hi, ha⟩ := (h.2 m).1 hm
    obtain ⟨n, hn⟩ := h.1 i hi
    obtain ⟨q, hq, _⟩ := ha.mem hw hn
    exact fnd_key hq
  rwa [List.length_map] at h1
def OrdPost (L : List Nd) (ids : List ByteArray) (w : World) (e : Ending) (w' : World) : Prop :=
  (∃ v M l, e = .returned (.tuple #[v, .int .i64 0]) ∧ St w w' [⟨v, 9, 1, M.length, ss l⟩] [] ∧ Clo L ids M ∧ Strict M ∧ M.length ≤ 40 ∧ Mov (kO L) M l 0 M.length ∧ Rise (kO L) l 0 M.length) ∨
  (∃ v, e = .returned (.tuple #[v, .int .i64 7]) ∧ St w w' [⟨v, 9, 1, 0, []⟩] [] ∧ ∃ i ∈ ids, fnd L i = none)
theorem own_form {w : World} {base : Nat} {e : TypeId} {size n : Nat} {v : Value} {xs : List Value} (h : Ow w base e size v n xs) : (v = .slice none 0 0 ∧ n = 0) ∨ ∃ g cap, v = .slice (some ⟨g, 0, none⟩) n cap := by
  rcases h.2 with h | ⟨g, cap, cur, fr, hv, _⟩
  · exact .inl h
  · exact .inr ⟨g, cap, hv⟩
end Go.Mx
namespace Go.Proofs.Ytojbdlbcaoeffaa
open Go.RowKit Go.Mx

theorem insSort_nil (w : World) (c : Value) :
    Calls Try.prog 51 #[.slice none 0 0, .int .i64 0, .int .i64 0, c] w fun e w' => e = .returned (.tuple #[]) ∧ w = w' := by
  go_enter Try.func51, Try.ntmps51
  go_wp2_with fail
  go_loopw [8] (fun x wr => x = .int .i64 1 ∧ w = wr) (fun _ _ => 0)
  case atStart => exact ⟨by go_num, rfl⟩
  case round =>
    obtain ⟨rfl, rfl⟩ := hrel
    go_wp2_with fail
    go_end0
    exact ⟨rfl, rfl⟩
theorem stable_nil (w : World) (c : Value) :
    Calls Try.prog 48 #[.slice none 0 0, .int .i64 0, c] w fun e w' => e = .returned (.tuple #[]) ∧ w = w' := by
  go_enter Try.func48, Try.ntmps48
  go_wp2_with fail
  go_loopw [7, 8] (fun x y wr => x = .int .i64 0 ∧ y = .int .i64 20 ∧ w = wr) (fun _ _ _ => 0)
  case atStart => exact ⟨rfl, rfl, rfl⟩
  case round =>
    obtain ⟨rfl, rfl, rfl⟩ := hrel
    go_wp2_with fail
    refine (insSort_nil _ _).mono ?_
    rintro e w2 ⟨rfl, rfl⟩
    go_wp2_with fail
    go_loopw [6, 7, 8, 9] (fun s _ _ _ wr => s = .int .i64 20 ∧ w = wr) (fun _ _ _ _ _ => 0)
    case atStart => exact ⟨rfl, rfl⟩
    case round =>
      obtain ⟨rfl, rfl⟩ := hrel
      go_wp2_with fail
      go_end0
      exact ⟨rfl, rfl⟩
theorem sortStable_nil (w : World) (c : Value) :
    Calls Try.prog 40 #[.slice none 0 0, c] w fun e w' => e = .returned (.tuple #[]) ∧ w = w' := by
  go_enter Try.func40, Try.ntmps40
  go_wp2_with fail
  refine (stable_nil _ _).mono ?_
  rintro e w2 ⟨rfl, rfl⟩
  go_wp2_with fail
  go_end0
  exact ⟨rfl, rfl⟩
theorem cmp_ok (gp g B : Nat) (G : List Gd) (w0 : World) (h : GG w0 g B G) (c : w0.cell? ⟨gp, 0, none⟩ = some (.pointer (some ⟨g, 0, none⟩))) : CmpOK w0 gp (kO (G.map (·.2))) := by
  refine ⟨fun x => ?_, fun a b wx R Q hs => (cmp_g gp g B G a b wx (h.r.st hs) (hs.keep c) (sV_lt h.wf h.st)).mono fun e w' ⟨he, hk⟩ => ⟨?_, hk⟩⟩
  · have := sV_lt h.wf h.st x
    unfold kO
    omega
  · rw [he]
    congr 2
    unfold kO
    omega
set_option maxRecDepth 100000 in
theorem order_g (g B : Nat) (G : List Gd) (v : Value) (ids : List ByteArray) (w : World) (h : GG w g B G) (h40 : G.length ≤ 40) (hv : Sl w 1 v ids.length (ss ids)) (hl : ids.length ≤ 1000000) :
    Calls Try.prog 22 #[.pointer (some ⟨g, 0, none⟩), v] w (OrdPost (G.map (·.2)) ids w) := by
  have hb0 := (St.refl w).made #[.pointer (some ⟨g, 0, none⟩)] 24 1 1 (by rfl) (by simp [maxLen])
  obtain ⟨gp, hgp⟩ : ∃ gp, gp = w.heap.size := ⟨_, rfl⟩
  have c0 := hb0.cell (j := 0) (u := .pointer (some ⟨g, 0, none⟩)) rfl
  obtain ⟨w1, hw1⟩ : ∃ w1, w1 = w.alloc (.cells #[.pointer (some ⟨g, 0, none⟩)] 24) := ⟨_, rfl⟩
  rw [← hw1] at hb0 c0
  have HG := Mx.hid (h.keep hb0.bare)
  have HS := Mx.hid hb0.bare
  have HV := Mx.hid (hb0.bare.old hv)
  have HW := Mx.hid h.wf
  have HC := Mx.hid (cmp_ok gp g B G w1 HG.out (by rw [hgp]; simpa using c0))
  have HL := Mx.hid (show (G.map (·.2)).length ≤ 40 by rw [List.length_map]; exact h40)
  have c1 : w1.cell? ⟨gp, 0, none⟩ = some (.pointer (some ⟨g, 0, none⟩)) := by rw [hgp]; simpa using c0
  have HW1 := Mx.hid hw1
  have HGP := Mx.hid hgp
  obtain ⟨ao, cap, rfl, _⟩ := hv.form
  clear h hv hb0 c0 hw1 h40 hgp
  go_enter Try.func22, Try.ntmps22
  go_wp2_with fail
  rw [← HGP.out, ← HW1.out]
  go_wp2_with fail
  refine (ancestors_g g B G _ ids w1 HG.out.r HW.out HV.out hl).mono ?_
  rintro e w2 (⟨v2, M, rfl, hs2, hcl, hst, _⟩ | ⟨v2, rfl, hs2, hx⟩)
  · have HX := Mx.hid (And.intro hcl hst)
    have hm40 : M.length ≤ 40 := Nat.le_trans (clo_short HW.out hcl hst) HL.out
    clear hcl hst
    rcases own_form (hs2.own _ (List.mem_cons_self ..)) with ⟨rfl, hm0⟩ | ⟨gs, cs, hv2⟩
    · obtain rfl : M = [] := List.eq_nil_of_length_eq_zero hm0
      go_wp2_with fail
      refine (sortStable_nil _ _).mono ?_
      rintro e w3 ⟨rfl, rfl⟩
      go_wp2_with fail
      go_ret2
      exact .inl ⟨_, [], [], rfl, HS.out.call hs2, HX.out.1, HX.out.2, by simp, Mov.refl _ _ _ _, fun i j _ _ hj => by simp at hj⟩
    · simp only [] at hv2
      subst hv2
      go_wp2_with fail
      refine (sortStable_any w1 w2 gs M.length cs gp [] _ HC.out M hs2 rfl hm40).mono ?_
      rintro e w3 ⟨l, rfl, hs3, hmv, hrz⟩
      have HM := Mx.hid (And.intro hmv hrz)
      clear hmv hrz
      go_wp2_with fail
      go_ret2
      exact .inl ⟨_, M, l, rfl, HS.out.call hs3, HX.out.1, HX.out.2, hm40, HM.out.1, HM.out.2⟩
  · have HX := Mx.hid hx
    clear hx
    rcases own_form (hs2.own _ (List.mem_cons_self ..)) with ⟨rfl, hm0⟩ | ⟨gs, cs, hv2⟩
    · go_wp2_with fail
      refine (sortStable_nil _ _).mono ?_
      rintro e w3 ⟨rfl, rfl⟩
      go_wp2_with fail
      go_ret2
      exact .inr ⟨_, rfl, HS.out.call hs2, HX.out⟩
    · simp only [] at hv2
      subst hv2
      go_wp2_with fail
      refine (sortStable_any w1 w2 gs 0 cs gp [] _ HC.out [] hs2 rfl (by simp)).mono ?_
      rintro e w3 ⟨l, rfl, hs3, hmv, hrz⟩
      obtain rfl : l = [] := List.eq_nil_of_length_eq_zero hmv.len
      clear hmv hrz
      go_wp2_with fail
      go_ret2
      exact .inr ⟨_, rfl, HS.out.call hs3, HX.out⟩
end Go.Proofs.Ytojbdlbcaoeffaa

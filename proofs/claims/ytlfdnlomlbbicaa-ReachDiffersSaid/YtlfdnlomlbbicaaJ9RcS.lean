/- marlaw10's Few, Source; marlaw12's few. marlaw10's Source and what it hands back. reach's object, within. -/
import Derived.Test.YtlfdnlomlbbicaaRID
import Derived.Test.YtlfdnlomlbbicaaLists
import Derived.Test.YtlfdnlomlbbicaaRegC
import Derived.Test.YtlfdnlomlbbicaaHeld
import Derived.Deep.DeepCutAuto
import Derived.Test.YtlfdnlomlbbicaaObjW
namespace Go.Mx
open Go Go.RowKit
/-- A text's name. -/
def idB (b : List UInt8) : ByteArray := str (hexL (sha b))
/-- Which text's name tells text i. -/
def kB (l : List (List UInt8)) (lie : Bool) (i : Nat) : Nat := if lie = true then (i + 1) % l.length else i
/-- What a source tells, from place i on. -/
def srcI (l : List (List UInt8)) (lie : Bool) (id : ByteArray) (i : Nat) : Option (List UInt8) :=
  if i < l.length then (if idB (l.getD (kB l lie i) []) = id then some (l.getD i []) else srcI l lie id (i + 1)) else none
termination_by l.length - i
def srcF (l : List (List UInt8)) (lie : Bool) (id : ByteArray) : Option (List UInt8) := srcI l lie id 0
def ids1 (l : List (List UInt8)) : List ByteArray := l.map idB
theorem kB_lt {l : List (List UInt8)} {lie : Bool} {i : Nat} (h : i < l.length) : kB l lie i < l.length := by
  unfold kB
  split
  · exact Nat.mod_lt _ (by omega)
  · exact h
theorem srcI_mem {l : List (List UInt8)} {lie : Bool} {id : ByteArray} {b : List UInt8} : ∀ {i : Nat}, srcI l lie id i = some b → b ∈ l := by
  intro i
  induction h : l.length - i generalizing i with
  | zero =>
    intro hs
    rw [srcI, if_neg (by omega)] at hs
    cases hs
  | succ n ih =>
    intro hs
    rw [srcI] at hs
    split at hs
    · rename_i hlt
      split at hs
      · cases hs
        rw [List.getD_eq_getElem?_getD, List.getElem?_eq_getElem hlt]
        exact List.getElem_mem hlt
      · exact ih (by omega) hs
    · cases hs
/-- The memory of a source: the texts, does it lie, their names. -/
structure SM (w : World) (g2 g3 g5 : Nat) (l : List (List UInt8)) (lie : Bool) : Prop where
  ll : ∃ lv, w.cell? ⟨g2, 0, none⟩ = some lv ∧ LL w lv l
  lc : w.cell? ⟨g3, 0, none⟩ = some (.bool lie)
  ic : ∃ iv, w.cell? ⟨g5, 0, none⟩ = some iv ∧ Sl w 1 iv l.length (ss (ids1 l))
theorem SM.keep {w0 w : World} {R : List Row} {Q : List Rd} {g2 g3 g5 : Nat} {l : List (List UInt8)} {lie : Bool} (h : SM w0 g2 g3 g5 l lie) (hs : St w0 w R Q) : SM w g2 g3 g5 l lie where
  ll := by obtain ⟨lv, h1, h2⟩ := h.ll; exact ⟨lv, hs.keep h1, LL.old hs h2⟩
  lc := hs.keep h.lc
  ic := by obtain ⟨lv, h1, h2⟩ := h.ic; exact ⟨lv, hs.keep h1, hs.old h2⟩
end Go.Mx
namespace Go.Proofs.Ytlfdnlomlbbicaa
open Go.RowKit Go.Mx

def Few10Post (l : List (List UInt8)) (w : World) (e : Ending) (w' : World) : Prop :=
  ∃ b : Bool, e = .returned (.bool b) ∧ St w w' [] [] ∧ (b = true → l.length ≤ 40 ∧ (∀ x ∈ l, x.length ≤ 1500) ∧ (l.map List.length).sum ≤ 6000)
set_option maxRecDepth 100000 in
theorem few10_any (v : Value) (l : List (List UInt8)) (w : World) (hv : LL w v l) (hz : ∀ x ∈ l, x.length ≤ 140737488355328) :
    Calls Try.prog 24 #[v] w (Few10Post l w) := by
  obtain ⟨ao, cap, blk, off, us, rfl, h1, h2, hc, hs⟩ := hv.at
  have HC := Mx.hid (fun k hk => (⟨(hc k hk).1, (hc k hk).2⟩ : ao = some ⟨blk, off, none⟩ ∧ w.cell? ⟨blk, off + k, none⟩ = some (us k)))
  have HS := Mx.hid hs
  have HZ := Mx.hid (fun (k : Nat) (hk : k < l.length) => hz l[k] (List.getElem_mem hk))
  clear hv hc hs hz
  go_enter Try.func24, Try.ntmps24
  go_wp2_with fail
  go_loopw [3, 4] (fun x y wr => ∃ (n : Int) (i : Nat), x = .int .i64 n ∧ 0 ≤ n ∧ n ≤ 24000 ∧ i ≤ l.length ∧ i ≤ 40 ∧ y = .int .i64 i ∧ Hid (n = ((min ((l.take i).map List.length).sum 24000 : Nat) : Int)) ∧ Hid (∀ x ∈ l.take i, x.length ≤ 1500) ∧ St w wr [] []) (fun _ y _ => l.length - (intOf y).toNat)
  case atStart => exact ⟨0, 0, rfl, by omega, by omega, by omega, by omega, rfl, Mx.hid (by simp), Mx.hid (by simp), St.refl w⟩
  case round =>
    obtain ⟨n, i, rfl, hn0, hn1, hi, hi4, rfl, HN, HA, hs⟩ := hrel
    by_cases hlt : i < l.length ∧ i < 40
    · obtain ⟨hlt, hlt4⟩ := hlt
      obtain ⟨rfl, c0⟩ := HC.out i hlt
      have hx := HS.out i hlt
      have hzl := HZ.out i hlt
      obtain ⟨xo, xc, hu, xl, xm, _⟩ := id hx
      replace c0 := hs.keep c0
      rw [hu] at c0
      have HTS := Mx.hid (show ((l.take (i + 1)).map List.length).sum = ((l.take i).map List.length).sum + l[i].length by rw [List.take_succ_eq_append_getElem hlt, List.map_append, List.sum_append]; simp)
      have HTA := Mx.hid (fun (h : l[i].length ≤ 1500) => (show ∀ x ∈ l.take (i + 1), x.length ≤ 1500 by
        rw [List.take_succ_eq_append_getElem hlt]
        intro x hx
        rcases List.mem_append.1 hx with hx | hx
        · exact HA.out x hx
        · rw [List.mem_singleton.1 hx]; exact h))
      have q1 : decide ((i : Int) < 40) = true := decide_eq_true (by omega)
      have q2 : decide (i < 40) = true := decide_eq_true (by omega)
      unfold maxLen at xm
      clear hx hu
      generalize l[i].length = z at *
      by_cases hz : 1500 < z
      · have q3 : decide ((1500 : Int) < (z : Int)) = true := decide_eq_true (by omega)
        have q4 : decide (1500 < z) = true := decide_eq_true hz
        go_wp2_with (first | ((with_reducible show wpList _ _ _ _ _ _); refine wpl_want rfl ?_))
        all_goals
          go_ret
          exact ⟨false, rfl, hs, fun h => by cases h⟩
      · have q3 : decide ((1500 : Int) < (z : Int)) = false := decide_eq_false (by omega)
        have q4 : decide (1500 < z) = false := decide_eq_false hz
        go_wp2_with (first | ((with_reducible show wpList _ _ _ _ _ _); refine wpl_want rfl ?_))
        go_roundw
        case rel => exact ⟨_, i + 1, rfl, by omega, by omega, by omega, by omega, by go_num, Mx.hid (by have h1 := HN.out; rw [HTS.out]; omega), Mx.hid (HTA.out (by omega)), hs⟩
        case measure => simp [intOf]; omega
    · by_cases hp : i < l.length
      · have q1 : decide ((i : Int) < 40) = false := decide_eq_false (by omega)
        have q2 : decide (i < 40) = false := decide_eq_false (by omega)
        have q5 : decide ((l.length : Int) ≤ 40) = false := decide_eq_false (by omega)
        have q6 : decide (l.length ≤ 40) = false := decide_eq_false (by omega)
        clear hlt hi
        go_wp2_with (first | ((with_reducible show wpList _ _ _ _ _ _); refine wpl_want rfl ?_))
        go_ret
        exact ⟨false, rfl, hs, fun h => by cases h⟩
      · have q3 : decide ((i : Int) < (l.length : Int)) = false := decide_eq_false (by omega)
        have q4 : decide (i < l.length) = false := decide_eq_false (by omega)
        have HT := Mx.hid (show l.take i = l from List.take_of_length_le (by omega))
        have q5 : decide ((l.length : Int) ≤ 40) = true := decide_eq_true (by omega)
        have q6 : decide (l.length ≤ 40) = true := decide_eq_true (by omega)
        have HL := Mx.hid (show l.length ≤ 40 by omega)
        clear hlt hi
        by_cases h6 : n ≤ 6000
        · have q7 : decide (n ≤ 6000) = true := decide_eq_true h6
          have H6 := Mx.hid h6
          clear h6
          go_wp2_with (first | ((with_reducible show wpList _ _ _ _ _ _); refine wpl_want rfl ?_))
          go_ret
          refine ⟨true, rfl, hs, fun _ => ⟨HL.out, ?_, ?_⟩⟩
          · have := HA.out; rwa [HT.out] at this
          · have h1 := HN.out
            have h2 := H6.out
            rw [HT.out] at h1
            omega
        · have q7 : decide (n ≤ 6000) = false := decide_eq_false h6
          clear h6
          go_wp2_with (first | ((with_reducible show wpList _ _ _ _ _ _); refine wpl_want rfl ?_))
          go_ret
          exact ⟨false, rfl, hs, fun h => by cases h⟩
def Few12Post (l : List ByteArray) (w : World) (e : Ending) (w' : World) : Prop := (∃ b : Bool, e = .returned (.bool b) ∧ (b = true → l.length ≤ 20)) ∧ w = w'
theorem few12_any (v : Value) (l : List ByteArray) (w : World) (hv : Sl w 1 v l.length (ss l)) :
    Calls Try.prog 25 #[v] w (Few12Post l w) := by
  obtain ⟨ao, cap, blk, off, rfl, h1, h2, _, hc⟩ := hv.txt
  clear hv
  have HC := Mx.hid hc
  clear hc
  go_enter Try.func25, Try.ntmps25
  go_wp2_with fail
  go_loop [3] (fun x => ∃ i : Nat, i ≤ l.length ∧ i ≤ 20 ∧ x = .int .i64 i) (fun x => l.length - (intOf x).toNat)
  case atStart => exact ⟨0, by omega, by omega, rfl⟩
  case round =>
    obtain ⟨i, hi, h4, rfl⟩ := hrel
    by_cases hlt : i < l.length ∧ i < 20
    · obtain ⟨hlt, h400⟩ := hlt
      obtain ⟨rfl, c1⟩ := HC.out i hlt
      have hii : (i : Int) < (l.length : Int) := by omega
      have hjj : (i : Int) < 20 := by omega
      generalize hz : l[i].size = z at *
      by_cases hz100 : 100 < z
      · have hzz : (100 : Int) < (z : Int) := by omega
        go_wp2_with fail
        go_ret
        exact ⟨⟨false, rfl, by simp⟩, rfl⟩
      · have hzz : (z : Int) ≤ 100 := by omega
        go_wp2_with fail
        go_round
        case rel => exact ⟨i + 1, by omega, by omega, by go_num⟩
        case measure => simp [intOf]; omega
    · by_cases hlt2 : i < l.length
      · have hii : decide ((i : Int) < (l.length : Int)) = true := decide_eq_true (by omega)
        have hjj : decide ((i : Int) < 20) = false := decide_eq_false (by omega)
        have hkk : decide ((l.length : Int) ≤ 20) = false := decide_eq_false (by omega)
        go_wp2_with fail
        go_ret
        exact ⟨⟨false, rfl, by simp⟩, rfl⟩
      · have hii : decide ((i : Int) < (l.length : Int)) = false := decide_eq_false (by omega)
        have hkk : decide ((l.length : Int) ≤ 20) = true := decide_eq_true (by omega)
        go_wp2_with fail
        go_ret
        exact ⟨⟨_, rfl, fun _ => by omega⟩, rfl⟩
end Go.Proofs.Ytlfdnlomlbbicaa

namespace Go.Proofs.Ytlfdnlomlbbicaa
open Go.RowKit Go.Mx

def SourcePost (l : List (List UInt8)) (lie : Bool) (w : World) (e : Ending) (w' : World) : Prop :=
  ∃ g2 g3 g5, e = .returned (.func (Fn.func 56) #[] #[.pointer (some ⟨g2, 0, none⟩), .pointer (some ⟨g3, 0, none⟩), .pointer (some ⟨g5, 0, none⟩)]) ∧ St w w' [] [] ∧ SM w' g2 g3 g5 l lie
set_option maxRecDepth 100000 in
set_option maxHeartbeats 2000000 in
theorem source_any (lv : Value) (l : List (List UInt8)) (lie : Bool) (w : World) (hv : LL w lv l) (hz : ∀ x ∈ l, x.length ≤ 140737488351232) (hl : l.length ≤ 1000000) :
    Calls Try.prog 26 #[lv, .bool lie] w (SourcePost l lie w) := by
  have HV := Mx.hid hv
  obtain ⟨ao, cap, blk, off, us, rfl, h1, h2, hc, hs⟩ := hv.at
  have HC := Mx.hid (fun k hk => (⟨(hc k hk).1, (hc k hk).2⟩ : ao = some ⟨blk, off, none⟩ ∧ w.cell? ⟨blk, off + k, none⟩ = some (us k)))
  have HS := Mx.hid hs
  have HZ := Mx.hid (fun (k : Nat) (hk : k < l.length) => hz l[k] (List.getElem_mem hk))
  clear hv hc hs hz
  go_enter Try.func26, Try.ntmps26
  go_upto_region 1 with (first | ((with_reducible show wpList _ _ _ _ _ _); refine wpl_box rfl 4 _ rfl hsx ([.bool lie]) (by rfl) ?_; intro gy wy hsy) | ((with_reducible show wpList _ _ _ _ _ _); refine wpl_box rfl 49 _ rfl (St.refl w) ([.slice ao l.length cap]) (by rfl) ?_; intro gx wx hsx))
  have hz := hsy.madeAt #[.slice none 0 0] 24 1 1 wy.heap.size rfl (by simp [maxLen]) rfl
  have hz2 : St w (wy.alloc (.cells #[.slice none 0 0] 24)) [⟨.slice none 0 0, 9, 1, 0, []⟩, ⟨.slice (some ⟨wy.heap.size, 0, none⟩) 1 1, 24, 1, 1, [.slice none 0 0]⟩, ⟨.slice (some ⟨gy, 0, none⟩) 1 1, 4, 1, 1, [.bool lie]⟩, ⟨.slice (some ⟨gx, 0, none⟩) 1 1, 49, 1, 1, [.slice ao l.length cap]⟩] [] := hz.addNil _ _
  clear hz hsx hsy
  go_wp2_with fail
  generalize wy.alloc (.cells #[.slice none 0 0] 24) = wz at hz2 ⊢
  generalize wy.heap.size = gz at hz2 ⊢
  go_loopw [6] (fun y wr => ∃ (i : Nat) (iv : Value), y = .int .i64 i ∧ i ≤ l.length ∧ St w wr [⟨iv, 9, 1, i, ss ((ids1 l).take i)⟩, ⟨.slice (some ⟨gz, 0, none⟩) 1 1, 24, 1, 1, [iv]⟩, ⟨.slice (some ⟨gy, 0, none⟩) 1 1, 4, 1, 1, [.bool lie]⟩, ⟨.slice (some ⟨gx, 0, none⟩) 1 1, 49, 1, 1, [.slice ao l.length cap]⟩] []) (fun y _ => l.length - (intOf y).toNat)
  case atStart => exact ⟨0, _, rfl, by omega, hz2⟩
  case round =>
    clear hz2
    obtain ⟨i, iv, rfl, hi, hs⟩ := hrel
    have c9 := hs.rcell (j := 0) (List.mem_cons_of_mem _ (List.mem_cons_of_mem _ (List.mem_cons_of_mem _ (List.mem_cons_self ..)))) rfl
    by_cases hlt : i < l.length
    · obtain ⟨rfl, c0⟩ := HC.out i hlt
      have hx := HS.out i hlt
      have HX := Mx.hid (fun (wx : World) (R : List Row) (Q : List Rd) (h : St w wx R Q) => rid_any (us i) l[i] wx (h.old hx) (HZ.out i hlt))
      have HU := Mx.hid (fun (wx : World) (R : List Row) (Q : List Rd) (h : St w wx R Q) => h.keep c0)
      have HT := Mx.hid (show ss ((ids1 l).take (i + 1)) = ss ((ids1 l).take i) ++ [.string (idB l[i])] by
        rw [List.take_succ_eq_append_getElem (by simp [ids1]; exact hlt), ss_app]
        simp [ids1, ss])
      have hii : (i : Int) < (l.length : Int) := by omega
      have HID : Hid (idB l[i] = str (hexL (sha l[i]))) := rfl
      clear hx c0
      generalize hid : idB l[i] = idi at *
      generalize us i = ui at *
      go_wp2_with fail
      (refine wp_region_S (8) (fun W' => (W'.cell? ⟨gz, 0, none⟩ = some iv ∧ W'.cell? ⟨gx, 0, none⟩ = some (.slice (some ⟨blk, off, none⟩) l.length cap)) ∧ W'.cell? ⟨blk, off + i, none⟩ = some ui) (by kernel_rfl) ?_ (fun hHeld => ?_); (focus ((try dsimp only); exact ⟨⟨hs.drew.rcell (j := 0) (List.mem_cons_of_mem _ (List.mem_cons_self ..)) rfl, hs.drew.rcell (j := 0) (List.mem_cons_of_mem _ (List.mem_cons_of_mem _ (List.mem_cons_of_mem _ (List.mem_cons_self ..)))) rfl⟩, HU.out _ _ _ hs.drew⟩)))
      (refine wpAnyS_takeL (i := 0) (v := ?_) rfl (by kernel_rfl) (by kernel_rfl) (by kernel_rfl) (by kernel_rfl) (by kernel_rfl) (by kernel_rfl) (fun _ _ _ h => h) (Or.inl ⟨by rfl, ?_⟩) hHeld ?_; rotate_left 1; (focus (intro w' hSw; (try dsimp only at hSw); go_simp; (try with_reducible rfl))); (try simp only [Act.put, List.setIfInBounds_toArray, List.set_cons_zero, List.set_cons_succ]))
      (refine wpAnyS_takeL (i := 1) (v := ?_) rfl (by kernel_rfl) (by kernel_rfl) (by kernel_rfl) (by kernel_rfl) (by kernel_rfl) (by kernel_rfl) (fun _ _ _ h => h) (Or.inl ⟨by rfl, ?_⟩) hHeld ?_; rotate_left 1; (focus (intro w' hSw; (try dsimp only at hSw); go_simp; (try with_reducible rfl))); (try simp only [Act.put, List.setIfInBounds_toArray, List.set_cons_zero, List.set_cons_succ]))
      (refine wpAnyS_takeL (i := 2) (v := ?_) rfl (by kernel_rfl) (by kernel_rfl) (by kernel_rfl) (by kernel_rfl) (by kernel_rfl) (by kernel_rfl) (fun _ _ _ h => h) (Or.inl ⟨by rfl, ?_⟩) hHeld ?_; rotate_left 1; (focus (intro w' hSw; (try dsimp only at hSw); go_simp; (try with_reducible rfl))); (try simp only [Act.put, List.setIfInBounds_toArray, List.set_cons_zero, List.set_cons_succ]))
      (refine wpAnyS_takeL (i := 3) (v := ?_) rfl (by kernel_rfl) (by kernel_rfl) (by kernel_rfl) (by kernel_rfl) (by kernel_rfl) (by kernel_rfl) (fun _ _ _ h => h) (Or.inl ⟨by rfl, ?_⟩) hHeld ?_; rotate_left 1; (focus (intro w' hSw; (try dsimp only at hSw); go_simp; (try with_reducible rfl))); (try simp only [Act.put, List.setIfInBounds_toArray, List.set_cons_zero, List.set_cons_succ]))
      (refine wpAnyS_takeL (i := 4) (v := ?_) rfl (by kernel_rfl) (by kernel_rfl) (by kernel_rfl) (by kernel_rfl) (by kernel_rfl) (by kernel_rfl) (fun _ _ _ h => h) (Or.inl ⟨by rfl, ?_⟩) hHeld ?_; rotate_left 1; (focus (intro w' hSw; (try dsimp only at hSw); go_simp; (try with_reducible rfl))); (try simp only [Act.put, List.setIfInBounds_toArray, List.set_cons_zero, List.set_cons_succ]))
      (refine wpAnyS_ready (rs := [5]) (by kernel_rfl) (by simp) ?_; refine AllS.consL rfl (fun K hK => ?_) AllS.nil)
      (go_simp; go_at_call 55; refine (HX.out _ _ _ hs.drew).mono ?_; rintro e w' ⟨rfl, hk⟩; go_wp2_with fail)
      have hs1 := hs.drew.call0 hk
      (refine hK.out _ _ ?_ (fun hHeld => ?_); (focus ((try dsimp only); exact ⟨⟨hs1.rcell (j := 0) (List.mem_cons_of_mem _ (List.mem_cons_self ..)) rfl, hs1.rcell (j := 0) (List.mem_cons_of_mem _ (List.mem_cons_of_mem _ (List.mem_cons_of_mem _ (List.mem_cons_self ..)))) rfl⟩, HU.out _ _ _ hs1⟩)); clear hK K; (try simp only [Act.put, List.setIfInBounds_toArray, List.set_cons_zero, List.set_cons_succ]))
      (refine wpAnyS_ready (rs := [6]) (by kernel_rfl) (by simp) ?_; refine AllS.consL rfl (fun K hK => ?_) AllS.nil)
      go_simp
      (refine hK.out _ _ ?_ (fun hHeld => ?_); (focus ((try dsimp only); exact ⟨⟨(hs1.alloc _).rcell (j := 0) (List.mem_cons_of_mem _ (List.mem_cons_self ..)) rfl, (hs1.alloc _).rcell (j := 0) (List.mem_cons_of_mem _ (List.mem_cons_of_mem _ (List.mem_cons_of_mem _ (List.mem_cons_self ..)))) rfl⟩, HU.out _ _ _ (hs1.alloc _)⟩)); clear hK K; (try simp only [Act.put, List.setIfInBounds_toArray, List.set_cons_zero, List.set_cons_succ]))
      (refine wpAnyS_ready (rs := [7]) (by kernel_rfl) (by simp) ?_; refine AllS.consL rfl (fun K hK => ?_) AllS.nil)
      refine step_app rfl _ _ 24 rfl Try.elStr (by exact hs1.alloc _) rfl (by exact Sl.one _ _ _) (by intro u hu; simp at hu; subst hu; rfl) (by omega) ?_
      intro v8 w8 hs8 _
      obtain ⟨vo, vc, rfl, _⟩ := id hs8.sl0
      (refine hK.out _ _ ?_ (fun hHeld => ?_); (focus ((try dsimp only); exact ⟨⟨hs8.rcell (j := 0) (List.mem_cons_of_mem _ (List.mem_cons_self ..)) rfl, hs8.rcell (j := 0) (List.mem_cons_of_mem _ (List.mem_cons_of_mem _ (List.mem_cons_of_mem _ (List.mem_cons_self ..)))) rfl⟩, HU.out _ _ _ hs8⟩)); clear hK K; (try simp only [Act.put, List.setIfInBounds_toArray, List.set_cons_zero, List.set_cons_succ]))
      (refine wpAnyS_seq (by rfl) (by kernel_rfl) ?_; simp only [List.drop_succ_cons, List.drop_zero])
      go_wp2_with ((with_reducible show wpList _ _ _ _ _ _); refine wpl_store1 rfl 24 _ _ rfl hs8.swap (0) rfl (.slice vo (i + 1) vc) rfl rfl (by kernel_rfl) (by simp) rfl ?_; intro w9 hs9)
      case roundEnd =>
        exact ⟨⟨i + 1, .slice vo (i + 1) vc, by go_num, by omega, (hs9.cast rfl (show _ = [Value.slice vo (i + 1) vc] by simp)).swap.cast rfl (by rw [HT.out, HID.out])⟩, by simp [intOf]; omega⟩
    · obtain rfl : i = l.length := by omega
      have HIL := Mx.hid (show (ids1 l).take l.length = ids1 l from List.take_of_length_le (by simp [ids1]))
      rw [HIL.out] at hs
      go_wp2_with fail
      go_ret
      exact ⟨gx, gy, gz, rfl, hs.bare, ⟨_, hs.rcell (List.mem_cons_of_mem _ (List.mem_cons_of_mem _ (List.mem_cons_of_mem _ (List.mem_cons_self ..)))) rfl, LL.old hs HV.out⟩, hs.rcell (List.mem_cons_of_mem _ (List.mem_cons_of_mem _ (List.mem_cons_self ..))) rfl, ⟨_, hs.rcell (List.mem_cons_of_mem _ (List.mem_cons_self ..)) rfl, hs.sl0⟩⟩
def SourceAns (o : Option (List UInt8)) (w : World) (e : Ending) (w' : World) : Prop :=
  match o with
  | some b => ∃ v, e = .returned (.tuple #[v, .bool true]) ∧ St w w' [(⟨v, 5, 1, (b).length, bs (b)⟩ : Row)] []
  | none => e = .returned (.tuple #[.slice none 0 0, .bool false]) ∧ St w w' [] []
theorem ids1_get {l : List (List UInt8)} {k : Nat} (hk : k < l.length) : (ids1 l)[k]'(by simpa [ids1] using hk) = idB (l.getD k []) := by
  simp [ids1, List.getD_eq_getElem?_getD, List.getElem?_eq_getElem hk]
set_option maxRecDepth 100000 in
set_option maxHeartbeats 2000000 in
theorem src_any (g2 g3 g5 : Nat) (l : List (List UInt8)) (lie : Bool) (id : ByteArray) (w : World) (h : SM w g2 g3 g5 l lie) (hz : ∀ x ∈ l, x.length ≤ 140737488351232) (hl : l.length ≤ 1000000) :
    Calls Try.prog 56 #[.string id, .pointer (some ⟨g2, 0, none⟩), .pointer (some ⟨g3, 0, none⟩), .pointer (some ⟨g5, 0, none⟩)] w (SourceAns (srcF l lie id) w) := by
  obtain ⟨lv, c2, hLL⟩ := h.ll
  have c3 := h.lc
  obtain ⟨iv, c5, hI⟩ := h.ic
  obtain ⟨ao, cap, blk, off, us, rfl, h1, h2, hc, hs⟩ := hLL.at
  obtain ⟨bo, bcap, blk', off', rfl, i1, i2, hll, hic⟩ := hI.txt
  have HC := Mx.hid (fun k hk => (⟨(hc k hk).1, (hc k hk).2⟩ : ao = some ⟨blk, off, none⟩ ∧ w.cell? ⟨blk, off + k, none⟩ = some (us k)))
  have HS := Mx.hid hs
  have HZ := Mx.hid (fun (k : Nat) (hk : k < l.length) => hz l[k] (List.getElem_mem hk))
  have HI := Mx.hid (fun (k : Nat) (hk : k < l.length) => (show bo = some ⟨blk', off', none⟩ ∧ w.cell? ⟨blk', off' + k, none⟩ = some (.string (idB (l.getD k []))) from by
    have := hic k (by simpa [ids1] using hk)
    rw [ids1_get hk] at this
    exact this))
  have HST : Hid (srcF l lie id = srcI l lie id 0) := Mx.hid (by unfold srcF; rfl)
  generalize srcF l lie id = so at *
  clear h hLL hI hc hs hz hic hll
  go_enter Try.func56, Try.ntmps56
  go_wp2_with fail
  go_loopw [7, 8] (fun y _ wr => ∃ i : Nat, y = .int .i64 i ∧ i ≤ l.length ∧ Hid (so = srcI l lie id i) ∧ St w wr [] []) (fun y _ _ => l.length - (intOf y).toNat)
  case atStart => exact ⟨0, rfl, by omega, HST, St.refl w⟩
  case round =>
    clear HST
    obtain ⟨i, rfl, hi, HSI, hq⟩ := hrel
    replace c2 := hq.keep c2
    replace c3 := hq.keep c3
    replace c5 := hq.keep c5
    by_cases hlt : i < l.length
    · obtain ⟨rfl, a0⟩ := HC.out i hlt
      have hk := kB_lt (lie := lie) hlt
      obtain ⟨rfl, b0⟩ := HI.out _ hk
      have hx := HS.out i hlt
      obtain ⟨xo, xc, hu, _⟩ := Sl.form hx
      replace a0 := hq.keep a0
      replace b0 := hq.keep b0
      rw [hu] at a0 hx
      have HXX := Mx.hid (copyBytes_any _ l[i] wr (hq.old hx) (by have := HZ.out i hlt; omega))
      have HSR := Mx.hid (show so = if idB (l.getD (kB l lie i) []) = id then some (l.getD i []) else srcI l lie id (i + 1) by rw [HSI.out, srcI, if_pos hlt])
      have HGD := Mx.hid (show l.getD i [] = l[i] by rw [List.getD_eq_getElem?_getD, List.getElem?_eq_getElem hlt]; rfl)
      have hii : (i : Int) < (l.length : Int) := by omega
      clear hx hu HSI
      generalize idB (l.getD (kB l lie i) []) = idk at *
      cases lie with
      | false =>
        have hkk : kB l false i = i := rfl
        rw [hkk] at b0 hk
        clear hkk
        by_cases he : idk = id
        · have hb : (idk.toList == id.toList) = true := tx_beq he
          have HF := Mx.hid (show so = some l[i] by rw [HSR.out, if_pos he, HGD.out])
          clear he
          go_wp2_with fail
          refine HXX.out.mono ?_
          rintro e w1 ⟨v, rfl, hk1⟩
          go_wp2_with fail
          go_ret2
          rw [HF.out]
          exact ⟨_, rfl, hq.call hk1⟩
        · have hb : (idk.toList == id.toList) = false := tx_bne he
          have HF := Mx.hid (show so = srcI l false id (i + 1) by rw [HSR.out, if_neg he])
          clear he
          go_wp2_with fail
          exact ⟨⟨i + 1, by go_num, by omega, HF, hq⟩, by simp [intOf]; omega⟩
      | true =>
        have hkk : kB l true i = (i + 1) % l.length := by unfold kB; rw [if_pos rfl]
        rw [hkk] at b0 hk
        have hl0 : ¬ (l.length : Int) = 0 := by omega
        have hw1 : IntKind.i64.wrap ((i : Int) + 1) = (i : Int) + 1 := IntWalk.i64_in _ (by omega)
        have h9 : (0 : Int) ≤ ((i : Int) + 1) % (l.length : Int) := Int.emod_nonneg _ hl0
        have h10 : ((i : Int) + 1) % (l.length : Int) < (l.length : Int) := Int.emod_lt_of_pos _ (by omega)
        clear hkk
        by_cases he : idk = id
        · have hb : (idk.toList == id.toList) = true := tx_beq he
          have HF := Mx.hid (show so = some l[i] by rw [HSR.out, if_pos he, HGD.out])
          clear he
          go_wp2_with fail
          refine HXX.out.mono ?_
          rintro e w1 ⟨v, rfl, hk1⟩
          go_wp2_with fail
          go_ret2
          rw [HF.out]
          exact ⟨_, rfl, hq.call hk1⟩
        · have hb : (idk.toList == id.toList) = false := tx_bne he
          have HF := Mx.hid (show so = srcI l true id (i + 1) by rw [HSR.out, if_neg he])
          clear he
          go_wp2_with fail
          exact ⟨⟨i + 1, by go_num, by omega, HF, hq⟩, by simp [intOf]; omega⟩
    · have HF := Mx.hid (show so = none by rw [HSI.out, srcI, if_neg hlt])
      go_wp2_with fail
      go_ret2
      rw [HF.out]
      exact ⟨rfl, hq⟩
end Go.Proofs.Ytlfdnlomlbbicaa

namespace Go.Mx
open Go Go.RowKit
/-- What an object's name tells. -/
def obO (so : Option (List UInt8)) : Ob × Bool := match so with | some b => ((decO b).1, decide ((decO b).2 = 0)) | none => (noOb, false)
theorem obO_may {so : Option (List UInt8)} (h : (obO so).2 = true) : mayB (obO so).1 = true := by
  unfold obO at *
  match so, h with
  | some b, h =>
    have h2 : (decO b).2 = 0 := of_decide_eq_true h
    exact (dec_ok (b := b) (o := (decO b).1) (Prod.ext rfl h2)).1
theorem refs_len {o : Ob} (h : mayB o = true) : (refsL o).length ≤ 256 := by
  unfold refsL
  unfold mayB at h
  by_cases h1 : o.kind = 1
  · rw [if_neg (by omega), if_neg (by omega)]; simp
  · rw [if_neg h1] at h
    by_cases h2 : o.kind = 2
    · rw [if_pos h2] at h ⊢
      simp only [Bool.and_eq_true, decide_eq_true_eq, itemsB] at h
      rw [List.length_map]
      exact h.1.2.2
    · rw [if_neg h2] at h ⊢
      by_cases h3 : o.kind = 3
      · rw [if_pos h3] at h ⊢
        simp only [Bool.and_eq_true, decide_eq_true_eq, parentsB] at h
        have := h.1.1.1.2.2
        rw [List.length_cons]
        omega
      · rw [if_neg h3]; simp
theorem noOb_refs : refsL noOb = [] := by unfold refsL noOb; rw [if_neg (by decide), if_neg (by decide)]
/-- A variable's cells. -/
def VC (g : Nat) (cs : List Value) (w : World) : Prop := ∀ i u, cs[i]? = some u → w.cell? ⟨g, 0 + i, none⟩ = some u
theorem VC.of {w0 w : World} {R : List Row} {Q : List Rd} {g : Nat} {n cap : Nat} {e : TypeId} {cs : List Value} {size : Nat} (h : St w0 w R Q) (hr : (⟨.slice (some ⟨g, 0, none⟩) n cap, e, size, n, cs⟩ : Row) ∈ R) : VC g cs w := fun i u hu => by rw [Nat.zero_add]; exact h.rcell hr hu
end Go.Mx
namespace Go.Proofs.Ytlfdnlomlbbicaa
open Go.RowKit Go.Mx

theorem within_any (n : Int) (w : World) :
    Calls Try.prog 57 #[.int .i64 n] w fun e w' => e = .returned (.bool (decide (1 ≤ n) && decide (n ≤ 2000))) ∧ w = w' := by
  go_enter Try.func57, Try.ntmps57
  cases h1 : decide (1 ≤ n) with
  | false =>
    go_wp2_with (first | ((with_reducible show wpList _ _ _ _ _ _); refine wpl_want rfl ?_))
    go_ret
    exact ⟨rfl, rfl⟩
  | true =>
    cases h2 : decide (n ≤ 2000) with
    | false =>
      go_wp2_with (first | ((with_reducible show wpList _ _ _ _ _ _); refine wpl_want rfl ?_))
      go_ret
      exact ⟨rfl, rfl⟩
    | true =>
      go_wp2_with (first | ((with_reducible show wpList _ _ _ _ _ _); refine wpl_want rfl ?_))
      go_ret
      exact ⟨rfl, rfl⟩

def ObjPost (so : Option (List UInt8)) (w : World) (e : Ending) (w' : World) : Prop :=
  ∃ dv iv pv, e = .returned (.tuple #[OV dv iv pv (obO so).1, .bool (obO so).2]) ∧ St w w' (obR dv iv pv (obO so).1) []
set_option maxRecDepth 100000 in
set_option maxHeartbeats 2000000 in
theorem object_any (g2 g3 g5 : Nat) (l : List (List UInt8)) (lie : Bool) (idn : ByteArray) (w : World) (h : SM w g2 g3 g5 l lie) (hz : ∀ x ∈ l, x.length ≤ 1000000000) (hl : l.length ≤ 1000000) :
    Calls Try.prog 59 #[.func (Fn.func 56) #[] #[.pointer (some ⟨g2, 0, none⟩), .pointer (some ⟨g3, 0, none⟩), .pointer (some ⟨g5, 0, none⟩)], .string idn] w (ObjPost (srcF l lie idn) w) := by
  have HZ := Mx.hid hz
  have hs0 := (St.refl w).madeAt ([.int .i64 (0), .slice none 0 0, .slice none 0 0, .string (str []), .slice none 0 0, .int .i64 (0), .int .i64 (0), .string (str [])]).toArray 26 8 1 w.heap.size rfl (by simp [maxLen]) rfl
  have HSR := Mx.hid (src_any g2 g3 g5 l lie idn _ (h.keep hs0.bare) (fun x hx => by have := hz x hx; omega) hl)
  have HMEM := Mx.hid (fun b (hb : srcF l lie idn = some b) => hz b (srcI_mem hb))
  clear h hz
  generalize srcF l lie idn = so at *
  go_enter Try.func59, Try.ntmps59
  go_wp2_with fail
  refine HSR.out.mono ?_
  intro e w1 he
  unfold SourceAns at he
  match so, he with
  | none, he =>
    obtain ⟨rfl, hk⟩ := he
    have hs1 := hs0.call0 hk
    clear hs0 HSR
    go_wp2_with (((with_reducible show wpList _ _ _ _ _ _); refine wpl_storeA rfl 26 _ _ rfl Try.aObj hs1 (0) rfl ([.int .i64 (0), .slice none 0 0, .slice none 0 0, .string (str []), .slice none 0 0, .int .i64 (0), .int .i64 (0), .string (str [])]) rfl (by rfl) (by simp) (by intro u hu; simp at hu; rcases hu with rfl | rfl | rfl | rfl | rfl | rfl | rfl | rfl <;> rfl) ?_; intro w9 hs9))
    replace hs9 := hs9.cast rfl (show _ = [.int .i64 (0), .slice none 0 0, .slice none 0 0, .string (str []), .slice none 0 0, .int .i64 (0), .int .i64 (0), .string (str [])] by simp)
    have hcw : ∀ i u, ([.int .i64 (0), .slice none 0 0, .slice none 0 0, .string (str []), .slice none 0 0, .int .i64 (0), .int .i64 (0), .string (str [])])[i]? = some u → w9.cell? ⟨w.heap.size, i, none⟩ = some u := fun i u h => hs9.rcell (List.mem_cons_self ..) h
    refine bodyPost_ret (v := .tuple #[.agg ([.int .i64 (0), .slice none 0 0, .slice none 0 0, .string (str []), .slice none 0 0, .int .i64 (0), .int .i64 (0), .string (str [])]).toArray, .bool false]) (results_cellA2 Try.results59 _ Try.aObj (g := w.heap.size) ([.int .i64 (0), .slice none 0 0, .slice none 0 0, .string (str []), .slice none 0 0, .int .i64 (0), .int .i64 (0), .string (str [])]) ?_ rfl hcw ?_) ?_ ⟨_, _, _, rfl, ((hs9.bare.addNil _ _).addNil _ _).addNil _ _⟩
    · first | (simp; done) | simp [Act.put]
    · first | (simp; done) | simp [Act.put]
    · first | (simp; done) | simp [Act.put]
  | some b, he =>
    obtain ⟨v, rfl, hk⟩ := he
    have hs1 := hs0.call1 hk
    have hbl := HMEM.out b rfl
    obtain ⟨vo, vc, rfl, _⟩ := id hk.sl0
    have HD := Mx.hid (decode_any _ b w1 hk.sl0 hbl)
    clear hs0 HSR hk HMEM
    obtain ⟨q, er, hD⟩ : ∃ q er, decO b = (q, er) := ⟨_, _, rfl⟩
    have hob : obO (some b) = (q, decide (er = 0)) := by show ((decO b).1, decide ((decO b).2 = 0)) = _; rw [hD]
    have HOB := Mx.hid hob
    unfold DecPost at HD
    rw [hD] at HD
    clear hD hob
    generalize w.heap.size = gz at *
    go_wp2_with fail
    refine HD.out.mono ?_
    rintro e w2 ⟨vd, vi, vp, rfl, hk⟩
    have hs2 := hs1.call hk
    obtain ⟨kq, dq, iq, tq, pq, sq, aq, mq⟩ := q
    obtain ⟨qd1, qd2, rfl, _⟩ := id (show Sl w2 1 vd dq.length (bs dq) from hk.sl0)
    obtain ⟨qi1, qi2, rfl, _⟩ := id (show Sl w2 3 vi iq.length (itms iq) from hk.sl1)
    obtain ⟨qp1, qp2, rfl, _⟩ := id (show Sl w2 1 vp pq.length (ss pq) from hk.sl2)
    simp only [OV, obR, List.cons_append, List.nil_append] at *
    clear hk hs1
    have hbe : ∀ b, decide (er = 0) = b → (er == 0) = b := fun b h => by rw [← h]; rw [Bool.eq_iff_iff]; simp
    obtain ⟨bb, he⟩ : ∃ bb, decide (er = 0) = bb := ⟨_, rfl⟩
    have he2 := hbe _ he
    rw [he] at HOB
    clear hbe he
    go_wp2_with (first | ((with_reducible show wpList _ _ _ _ _ _); refine wpl_storeA rfl 26 _ _ rfl Try.aObj (hs2.madeAt ([.int .i64 (0), .slice none 0 0, .slice none 0 0, .string (str []), .slice none 0 0, .int .i64 (0), .int .i64 (0), .string (str [])]).toArray 26 8 1 _ rfl (by simp [maxLen]) rfl) (0) rfl ([.int .i64 kq, .slice qd1 dq.length qd2, .slice qi1 iq.length qi2, .string tq, .slice qp1 pq.length qp2, .int .i64 sq, .int .i64 aq, .string mq]) rfl (by rfl) (by simp) (by intro u hu; simp at hu; rcases hu with rfl | rfl | rfl | rfl | rfl | rfl | rfl | rfl <;> rfl) ?_; intro w3 hs3) | ((with_reducible show wpList _ _ _ _ _ _); refine wpl_loadA rfl 26 _ rfl Try.aObj (w2.heap.size) (0) rfl ([.int .i64 kq, .slice qd1 dq.length qd2, .slice qi1 iq.length qi2, .string tq, .slice qp1 pq.length qp2, .int .i64 sq, .int .i64 aq, .string mq]) rfl (VC.of (hs3.cast rfl (show _ = [.int .i64 kq, .slice qd1 dq.length qd2, .slice qi1 iq.length qi2, .string tq, .slice qp1 pq.length qp2, .int .i64 sq, .int .i64 aq, .string mq] by simp)) (List.mem_cons_self ..)) ?_) | ((with_reducible show wpList _ _ _ _ _ _); refine wpl_storeA rfl 26 _ _ rfl Try.aObj (hs3.perm (R' := [_, _, _, _, _, _]) (List.perm_middle (l₁ := [_, _, _, _, _]))) (0) rfl ([.int .i64 kq, .slice qd1 dq.length qd2, .slice qi1 iq.length qi2, .string tq, .slice qp1 pq.length qp2, .int .i64 sq, .int .i64 aq, .string mq]) rfl (by rfl) (by simp) (by intro u hu; simp at hu; rcases hu with rfl | rfl | rfl | rfl | rfl | rfl | rfl | rfl <;> rfl) ?_; intro w9 hs9))
    replace hs9 := hs9.cast rfl (show _ = [.int .i64 kq, .slice qd1 dq.length qd2, .slice qi1 iq.length qi2, .string tq, .slice qp1 pq.length qp2, .int .i64 sq, .int .i64 aq, .string mq] by simp)
    have hcw : ∀ i u, ([.int .i64 kq, .slice qd1 dq.length qd2, .slice qi1 iq.length qi2, .string tq, .slice qp1 pq.length qp2, .int .i64 sq, .int .i64 aq, .string mq])[i]? = some u → w9.cell? ⟨gz, i, none⟩ = some u := fun i u h => hs9.rcell (List.mem_cons_self ..) h
    refine bodyPost_ret (v := .tuple #[.agg ([.int .i64 kq, .slice qd1 dq.length qd2, .slice qi1 iq.length qi2, .string tq, .slice qp1 pq.length qp2, .int .i64 sq, .int .i64 aq, .string mq]).toArray, .bool bb]) (results_cellA2 Try.results59 _ Try.aObj (g := gz) ([.int .i64 kq, .slice qd1 dq.length qd2, .slice qi1 iq.length qi2, .string tq, .slice qp1 pq.length qp2, .int .i64 sq, .int .i64 aq, .string mq]) ?_ rfl hcw ?_) ?_ ?_
    · first | (simp; done) | simp [Act.put]
    · first | (simp; done) | simp [Act.put]
    · first | (simp; done) | simp [Act.put]
    · unfold ObjPost
      rw [HOB.out]
      exact ⟨.slice qd1 dq.length qd2, .slice qi1 iq.length qi2, .slice qp1 pq.length qp2, rfl, hs9.sub (.cons _ (.cons _ (.cons_cons _ (.cons_cons _ (.cons_cons _ (.cons _ .slnil)))))) (by simp)⟩
end Go.Proofs.Ytlfdnlomlbbicaa

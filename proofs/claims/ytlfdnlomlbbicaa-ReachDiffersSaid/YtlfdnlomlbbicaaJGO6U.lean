/- marlaw6.ObjUnlike. marlaw6.ObjCuts. The document's reading of objects: the plain mathematics (no program in sight). -/
import Derived.Test.YtlfdnlomlbbicaaO6F
import Derived.Test.YtlfdnlomlbbicaaRowOb
namespace Go.Proofs.Ytlfdnlomlbbicaa
open Go.RowKit Go.Mx

theorem enc_yes {dv iv pv : Value} {o : Ob} {w : World} (h : OB w dv iv pv o) (hz : OZ o) (hm : mayB o = true) : Calls Try.prog 10 #[OV dv iv pv o] w fun e w' => ∃ v, e = .returned (.tuple #[v, .int .i64 0]) ∧ St w w' [(⟨v, 5, 1, (encL o).length, bs (encL o)⟩ : Row)] [] :=
  (encode_any dv iv pv o w h hz).mono fun e w' he => by unfold EncPost at he; rw [if_pos hm] at he; exact he
theorem enc_no {dv iv pv : Value} {o : Ob} {w : World} (h : OB w dv iv pv o) (hz : OZ o) (hm : mayB o = false) : Calls Try.prog 10 #[OV dv iv pv o] w fun e w' => e = .returned (.tuple #[.slice none 0 0, .int .i64 1]) ∧ St w w' [] [] :=
  (encode_any dv iv pv o w h hz).mono fun e w' he => by unfold EncPost at he; rw [if_neg (by simp [hm])] at he; exact he
theorem same_sym (a b : Ob) : sameB b a = sameB a b := by
  rw [Bool.eq_iff_iff, sameB_iff, sameB_iff]
  exact ⟨Eq.symm, Eq.symm⟩
theorem same_enc {a b : Ob} (ha : mayB a = true) (hb : mayB b = true) : decide (encL a = encL b) = sameB a b := by
  rw [Bool.eq_iff_iff, sameB_iff, decide_eq_true_iff]
  exact ⟨enc_inj ha hb, fun h => by rw [h]⟩

end Go.Proofs.Ytlfdnlomlbbicaa

namespace Go.Mx
open Go Go.RowKit
/-- A tree or a commit is read as itself, whatever stands behind it. -/
theorem read_pre {o : Ob} (h : mayB o = true) (hk : o.kind ≠ 1) (ext : List UInt8) : ∃ k r, encL o = k :: r ∧ (k.toNat : Int) = o.kind ∧ readO o.kind (r ++ ext) = o := by
  obtain ⟨kind, data, items, tree, parents, stamp, author, msg⟩ := o
  unfold mayB at h
  simp only [] at h hk
  rw [if_neg hk] at h
  by_cases h2 : kind = 2
  · subst h2
    simp only [if_true, Bool.and_eq_true, decide_eq_true_eq, bareB, itemsB] at h
    obtain ⟨⟨rfl, ⟨hi, _⟩, hl⟩, rfl, rfl, rfl, rfl, rfl⟩ := h
    refine ⟨2, putL items.length ++ items.flatMap itemL, by simp [encL], rfl, ?_⟩
    have := rdItems_app items ext hi
    simp [readO, nm_app (show items.length ≤ 72057594037927936 by omega), this]
  by_cases h3 : kind = 3
  · subst h3
    simp only [show ¬ (3 : Int) = 2 by omega, if_false, if_true, Bool.and_eq_true, decide_eq_true_eq, parentsB, msgB] at h
    obtain ⟨⟨⟨⟨⟨⟨rfl, rfl⟩, ht⟩, ⟨hp, _⟩, hpl⟩, hs1, hs2⟩, ha1, ha2⟩, _, hml⟩ := h
    have hsz : msg.size = (bL msg).length := by simp [bL]
    refine ⟨3, rawL tree ++ (UInt8.ofNat parents.length :: parents.flatMap rawL) ++ putL stamp.toNat ++ putL author.toNat ++ putL msg.size ++ bL msg, by simp [encL], rfl, ?_⟩
    have e2 : (UInt8.ofNat parents.length).toNat = parents.length := by rw [UInt8.toNat_ofNat']; omega
    have e3 := tk_app (n := (bL msg).length) (l := bL msg) (r := ext) rfl
    simp only [readO, show ¬ (3 : Int) = 1 by omega, show ¬ (3 : Int) = 2 by omega, if_false, if_true, List.append_assoc, List.cons_append, hs_app (raw_len ht), on_app, e2, rdPars_app parents _ hp, nm_app (show stamp.toNat ≤ 72057594037927936 by omega),
      nm_app (show author.toNat ≤ 72057594037927936 by omega), hsz, nm_app (show (bL msg).length ≤ 72057594037927936 by omega), e3, raw_hex ht, str_bL]
    congr 1 <;> omega
  · rw [if_neg h2, if_neg h3] at h; cases h
theorem enc_pre {o p : Ob} {ext : List UInt8} (ho : mayB o = true) (hp : mayB p = true) (hk : p.kind ≠ 1) (h : encL o = encL p ++ ext) : o = p := by
  obtain ⟨k, r, e1, e2, e3⟩ := read_pre hp hk ext
  obtain ⟨k', r', f1, f2, f3⟩ := read_enc ho
  rw [f1, e1, List.cons_append] at h
  obtain ⟨rfl, rfl⟩ := List.cons.inj h
  rw [← f3, ← f2, e2, e3]
theorem enc_kind {o : Ob} (ho : mayB o = true) {k : UInt8} {r : List UInt8} (h : encL o = k :: r) : o.kind = (k.toNat : Int) := by
  obtain ⟨k', r', f1, f2, _⟩ := read_enc ho
  rw [f1] at h
  cases h
  exact f2.symm
theorem dec_cases (b : List UInt8) : b = [] ∧ decO b = (noOb, 2) ∨ b ≠ [] ∧ decO b = (noOb, 4) ∨ ∃ o, decO b = (o, 0) ∧ mayB o = true ∧ encL o = b := by
  match b with
  | [] => exact .inl ⟨rfl, rfl⟩
  | k :: r =>
    by_cases h : mayB (readO (k.toNat : Int) r) = true ∧ encL (readO (k.toNat : Int) r) = k :: r
    · exact .inr (.inr ⟨_, by unfold decO; simp only []; rw [if_pos h], h⟩)
    · exact .inr (.inl ⟨by simp, by unfold decO; simp only []; rw [if_neg h]⟩)
theorem dec_cut {o : Ob} (ho : mayB o = true) (hk : o.kind ≠ 1) {n : Nat} (hn : n < (encL o).length) : decO ((encL o).take n) = (noOb, if n = 0 then 2 else 4) := by
  rcases dec_cases ((encL o).take n) with ⟨h, hd⟩ | ⟨h, hd⟩ | ⟨p, hd, hp, he⟩
  · have : n = 0 := by
      have := congrArg List.length h
      simp at this
      rcases this with h | h
      · exact h
      · rw [h] at hn; simp at hn
    rw [hd, if_pos this]
  · have : n ≠ 0 := by rintro rfl; exact h rfl
    rw [hd, if_neg this]
  · exfalso
    have hsplit : encL o = encL p ++ (encL o).drop n := by rw [he, List.take_append_drop]
    have hpk : p.kind ≠ 1 := by
      obtain ⟨k, r, f1, f2, _⟩ := read_enc hp
      rw [f1, List.cons_append] at hsplit
      rw [enc_kind ho hsplit] at hk
      rw [← f2]; exact hk
    have := enc_pre ho hp hpk hsplit
    subst this
    have := congrArg List.length he
    simp at this
    omega
theorem dec_more {o : Ob} (ho : mayB o = true) (hk : o.kind ≠ 1) (c : UInt8) : decO (encL o ++ [c]) = (noOb, 4) := by
  rcases dec_cases (encL o ++ [c]) with ⟨h, hd⟩ | ⟨h, hd⟩ | ⟨p, hd, hp, he⟩
  · simp at h
  · exact hd
  · exfalso
    have := enc_pre hp ho hk he
    subst this
    have := congrArg List.length he
    simp at this
theorem flat_le {α : Type} (f : α → List UInt8) (m : Nat) : ∀ l : List α, (∀ x ∈ l, (f x).length ≤ m) → (l.flatMap f).length ≤ l.length * m
  | [], _ => by simp
  | x :: l, h => by
    rw [List.flatMap_cons, List.length_append, List.length_cons, Nat.succ_mul]
    have h1 := h x (by simp)
    have h2 := flat_le f m l fun y hy => h y (by simp [hy])
    omega
theorem putL_9' {n : Nat} (h : n ≤ 72057594037927936) : (putL n).length ≤ 9 := by
  have := putL_le 9 n (by have : (128 : Nat) ^ 9 = 9223372036854775808 := by decide
                          omega)
  omega
theorem enc_len {o : Ob} (h : mayB o = true) : (encL o).length ≤ 100000 := by
  obtain ⟨kind, data, items, tree, parents, stamp, author, msg⟩ := o
  unfold mayB at h
  simp only [] at h
  by_cases h1 : kind = 1
  · subst h1
    simp only [if_true, Bool.and_eq_true, decide_eq_true_eq] at h
    simp [encL]; omega
  rw [if_neg h1] at h
  by_cases h2 : kind = 2
  · subst h2
    simp only [if_true, Bool.and_eq_true, decide_eq_true_eq, itemsB] at h
    obtain ⟨⟨_, ⟨hi, _⟩, hl⟩, _⟩ := h
    have h9 := putL_9' (show items.length ≤ 72057594037927936 by omega)
    have hf := flat_le itemL 106 items fun x hx => by
      have := List.all_eq_true.1 hi x hx
      simp only [itemB, Bool.and_eq_true, decide_eq_true_eq] at this
      obtain ⟨⟨_, hn⟩, hv⟩ := this
      have h32 := raw_len hv
      simp only [nameB, Bool.and_eq_true, decide_eq_true_eq] at hn
      have hn2 := hn.2.2.1
      have hsz : x.2.1.size = (bL x.2.1).length := by simp [bL]
      have h9 := putL_9' (show x.2.1.size ≤ 72057594037927936 by omega)
      simp [itemL]
      omega
    simp [encL, -List.length_flatMap]
    omega
  rw [if_neg h2] at h
  by_cases h3 : kind = 3
  · subst h3
    simp only [if_true, Bool.and_eq_true, decide_eq_true_eq, parentsB, msgB] at h
    obtain ⟨⟨⟨⟨⟨_, ht⟩, ⟨hp, _⟩, hpl⟩, hs1, hs2⟩, ha1, ha2⟩, _, hml⟩ := h
    have e1 := raw_len ht
    have hf := flat_le rawL 32 parents fun x hx => by rw [raw_len (List.all_eq_true.1 hp x hx)]; exact Nat.le_refl _
    have p1 := putL_9' (show stamp.toNat ≤ 72057594037927936 by omega)
    have p2 := putL_9' (show author.toNat ≤ 72057594037927936 by omega)
    have p3 := putL_9' (show msg.size ≤ 72057594037927936 by omega)
    have hsz : msg.size = (bL msg).length := by simp [bL]
    simp [encL, -List.length_flatMap]
    omega
  · rw [if_neg h3] at h; cases h
end Go.Mx

namespace Go.Mx
open Go Go.RowKit

/-- A number; once something lacked, none more. -/
def nmR (s : Src) : Nat × Src := if s.2 = true then (0, s) else nm s
def rdItemsR : Nat → Src → List Itm × Src
  | 0, s => ([], s)
  | n + 1, s => if s.2 = true then ([], s) else
    let m := on s
    let k := nmR m.2
    let t := tk k.1 k.2
    let h := hs t.2
    let r := rdItemsR n h.2
    (((m.1 : Int), str t.1, h.1) :: r.1, r.2)
/-- What stands behind the kind; did something lack? -/
def readR (kind : Int) (b : List UInt8) : Ob × Bool :=
  if kind = 1 then (⟨kind, b, [], str [], [], 0, 0, str []⟩, false)
  else if kind = 2 then
    let n := nmR (b, false)
    let r := rdItemsR n.1 n.2
    (⟨kind, [], r.1, str [], [], 0, 0, str []⟩, r.2.2)
  else if kind = 3 then
    let t := hs (b, false)
    let n := on t.2
    let p := rdPars n.1 n.2
    let s := nmR p.2
    let a := nmR s.2
    let k := nmR a.2
    let m := tk k.1 k.2
    (⟨kind, [], [], t.1, p.1, s.1, a.1, str m.1⟩, m.2.2)
  else (⟨kind, [], [], str [], [], 0, 0, str []⟩, false)
def decR (b : List UInt8) : Ob × Int :=
  match b with
  | [] => (noOb, 2)
  | k :: r => if (readR (k.toNat : Int) r).2 = false ∧ mayB (readR (k.toNat : Int) r).1 = true ∧ encL (readR (k.toNat : Int) r).1 = b then ((readR (k.toNat : Int) r).1, 0) else (noOb, 4)
theorem nmR_app {x : Nat} (h : x ≤ 72057594037927936) (r : List UInt8) : nmR (putL x ++ r, false) = (x, (r, false)) := by
  unfold nmR
  rw [if_neg (by simp), nm_app h]
theorem rdItemsR_app : ∀ (l : List Itm) (r : List UInt8), l.all itemB = true → rdItemsR l.length (l.flatMap itemL ++ r, false) = (l, (r, false))
  | [], r, _ => rfl
  | (m, nme, id) :: l, r, h => by
    rw [List.all_cons, Bool.and_eq_true] at h
    obtain ⟨hx, hl⟩ := h
    simp only [itemB, Bool.and_eq_true, decide_eq_true_eq] at hx
    obtain ⟨⟨hm, hn⟩, hv⟩ := hx
    have hsz : nme.size = (bL nme).length := by simp [bL]
    have hn2 : (bL nme).length ≤ 64 := by
      simp only [nameB, Bool.and_eq_true, decide_eq_true_eq] at hn
      exact hn.2.2.1
    have e1 : ((m, nme, id) :: l).flatMap itemL ++ r = UInt8.ofNat m.toNat :: (putL nme.size ++ (bL nme ++ (rawL id ++ (l.flatMap itemL ++ r)))) := by
      simp [itemL]
    have e2 : ((UInt8.ofNat m.toNat).toNat : Int) = m := by rw [UInt8.toNat_ofNat']; omega
    rw [List.length_cons, e1, rdItemsR, if_neg (by simp)]
    simp only [on_app, hsz, nmR_app (show (bL nme).length ≤ 72057594037927936 by omega), tk_app rfl, hs_app (raw_len hv), rdItemsR_app l r hl, raw_hex hv, str_bL, e2]
theorem readR_enc {o : Ob} (h : mayB o = true) : ∃ k r, encL o = k :: r ∧ (k.toNat : Int) = o.kind ∧ readR o.kind r = (o, false) := by
  obtain ⟨kind, data, items, tree, parents, stamp, author, msg⟩ := o
  unfold mayB at h
  simp only [] at h
  by_cases h1 : kind = 1
  · subst h1
    simp only [if_true, Bool.and_eq_true, decide_eq_true_eq, bareB] at h
    obtain ⟨⟨_, rfl⟩, rfl, rfl, rfl, rfl, rfl⟩ := h
    exact ⟨1, data, by simp [encL], rfl, by simp [readR]⟩
  by_cases h2 : kind = 2
  · subst h2
    simp only [show ¬ (2 : Int) = 1 by omega, if_false, if_true, Bool.and_eq_true, decide_eq_true_eq, bareB, itemsB] at h
    obtain ⟨⟨rfl, ⟨hi, _⟩, hl⟩, rfl, rfl, rfl, rfl, rfl⟩ := h
    refine ⟨2, putL items.length ++ items.flatMap itemL, by simp [encL], rfl, ?_⟩
    have := rdItemsR_app items [] hi
    rw [List.append_nil] at this
    simp [readR, nmR_app (show items.length ≤ 72057594037927936 by omega), this]
  by_cases h3 : kind = 3
  · subst h3
    simp only [show ¬ (3 : Int) = 1 by omega, show ¬ (3 : Int) = 2 by omega, if_false, if_true, Bool.and_eq_true, decide_eq_true_eq, parentsB, msgB] at h
    obtain ⟨⟨⟨⟨⟨⟨rfl, rfl⟩, ht⟩, ⟨hp, _⟩, hpl⟩, hs1, hs2⟩, ha1, ha2⟩, _, hml⟩ := h
    have hsz : msg.size = (bL msg).length := by simp [bL]
    refine ⟨3, rawL tree ++ (UInt8.ofNat parents.length :: parents.flatMap rawL) ++ putL stamp.toNat ++ putL author.toNat ++ putL msg.size ++ bL msg, by simp [encL], rfl, ?_⟩
    have e2 : (UInt8.ofNat parents.length).toNat = parents.length := by rw [UInt8.toNat_ofNat']; omega
    have e3 := tk_app (n := (bL msg).length) (l := bL msg) (r := []) rfl
    rw [List.append_nil] at e3
    simp only [readR, show ¬ (3 : Int) = 1 by omega, show ¬ (3 : Int) = 2 by omega, if_false, if_true, List.append_assoc, List.cons_append, hs_app (raw_len ht), on_app, e2, rdPars_app parents _ hp, nmR_app (show stamp.toNat ≤ 72057594037927936 by omega),
      nmR_app (show author.toNat ≤ 72057594037927936 by omega), hsz, nmR_app (show (bL msg).length ≤ 72057594037927936 by omega), e3, raw_hex ht, str_bL]
    refine Prod.ext ?_ rfl
    simp only []
    congr 1 <;> omega
  · rw [if_neg h1, if_neg h2, if_neg h3] at h; cases h
theorem decR_eq (b : List UInt8) : decR b = decO b := by
  match b with
  | [] => rfl
  | k :: r =>
    by_cases h : (readR (k.toNat : Int) r).2 = false ∧ mayB (readR (k.toNat : Int) r).1 = true ∧ encL (readR (k.toNat : Int) r).1 = k :: r
    · have h2 := dec_enc h.2.1
      rw [h.2.2] at h2
      rw [h2]
      unfold decR
      simp only []
      rw [if_pos h]
    · unfold decR
      simp only []
      rw [if_neg h]
      rcases dec_cases (k :: r) with ⟨h1, _⟩ | ⟨_, hd⟩ | ⟨o, hd, ho, he⟩
      · simp at h1
      · exact hd.symm
      · exfalso
        obtain ⟨k', r', f1, f2, f3⟩ := readR_enc ho
        rw [he] at f1
        cases f1
        rw [← f2] at f3
        exact h ⟨by rw [f3], by rw [f3]; exact ho, by rw [f3]; exact he⟩
end Go.Mx

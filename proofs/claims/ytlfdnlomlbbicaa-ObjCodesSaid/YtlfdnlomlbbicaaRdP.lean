/- The document's reading of objects: the plain mathematics (no program in sight). -/
import Derived.Test.YtlfdnlomlbbicaaO6C
namespace Go.Mx
open Go Go.RowKit

/-- A number; once something lacked, none more. -/
def nmR (s : Src) : Nat × Src := if s.2 = true then (0, s) else nm s
def rdItemsR : Nat → Src → List Itm × Src
  | 0, s => ([], s)
  | n + 1, s => if s.2 = true then ([], s) else
    let m := on s
    let k := nmR m.2
    let t := tk k.1 k.2
    let h := hs t.2
    let r := rdItemsR n h.2
    (((m.1 : Int), str t.1, h.1) :: r.1, r.2)
/-- What stands behind the kind; did something lack? -/
def readR (kind : Int) (b : List UInt8) : Ob × Bool :=
  if kind = 1 then (⟨kind, b, [], str [], [], 0, 0, str []⟩, false)
  else if kind = 2 then
    let n := nmR (b, false)
    let r := rdItemsR n.1 n.2
    (⟨kind, [], r.1, str [], [], 0, 0, str []⟩, r.2.2)
  else if kind = 3 then
    let t := hs (b, false)
    let n := on t.2
    let p := rdPars n.1 n.2
    let s := nmR p.2
    let a := nmR s.2
    let k := nmR a.2
    let m := tk k.1 k.2
    (⟨kind, [], [], t.1, p.1, s.1, a.1, str m.1⟩, m.2.2)
  else (⟨kind, [], [], str [], [], 0, 0, str []⟩, false)
def decR (b : List UInt8) : Ob × Int :=
  match b with
  | [] => (noOb, 2)
  | k :: r => if (readR (k.toNat : Int) r).2 = false ∧ mayB (readR (k.toNat : Int) r).1 = true ∧ encL (readR (k.toNat : Int) r).1 = b then ((readR (k.toNat : Int) r).1, 0) else (noOb, 4)
theorem nmR_app {x : Nat} (h : x ≤ 72057594037927936) (r : List UInt8) : nmR (putL x ++ r, false) = (x, (r, false)) := by
  unfold nmR
  rw [if_neg (by simp), nm_app h]
theorem rdItemsR_app : ∀ (l : List Itm) (r : List UInt8), l.all itemB = true → rdItemsR l.length (l.flatMap itemL ++ r, false) = (l, (r, false))
  | [], r, _ => rfl
  | (m, nme, id) :: l, r, h => by
    rw [List.all_cons, Bool.and_eq_true] at h
    obtain ⟨hx, hl⟩ := h
    simp only [itemB, Bool.and_eq_true, decide_eq_true_eq] at hx
    obtain ⟨⟨hm, hn⟩, hv⟩ := hx
    have hsz : nme.size = (bL nme).length := by simp [bL]
    have hn2 : (bL nme).length ≤ 64 := by
      simp only [nameB, Bool.and_eq_true, decide_eq_true_eq] at hn
      exact hn.2.2.1
    have e1 : ((m, nme, id) :: l).flatMap itemL ++ r = UInt8.ofNat m.toNat :: (putL nme.size ++ (bL nme ++ (rawL id ++ (l.flatMap itemL ++ r)))) := by
      simp [itemL]
    have e2 : ((UInt8.ofNat m.toNat).toNat : Int) = m := by rw [UInt8.toNat_ofNat']; omega
    rw [List.length_cons, e1, rdItemsR, if_neg (by simp)]
    simp only [on_app, hsz, nmR_app (show (bL nme).length ≤ 72057594037927936 by omega), tk_app rfl, hs_app (raw_len hv), rdItemsR_app l r hl, raw_hex hv, str_bL, e2]
theorem readR_enc {o : Ob} (h : mayB o = true) : ∃ k r, encL o = k :: r ∧ (k.toNat : Int) = o.kind ∧ readR o.kind r = (o, false) := by
  obtain ⟨kind, data, items, tree, parents, stamp, author, msg⟩ := o
  unfold mayB at h
  simp only [] at h
  by_cases h1 : kind = 1
  · subst h1
    simp only [if_true, Bool.and_eq_true, decide_eq_true_eq, bareB] at h
    obtain ⟨⟨_, rfl⟩, rfl, rfl, rfl, rfl, rfl⟩ := h
    exact ⟨1, data, by simp [encL], rfl, by simp [readR]⟩
  by_cases h2 : kind = 2
  · subst h2
    simp only [show ¬ (2 : Int) = 1 by omega, if_false, if_true, Bool.and_eq_true, decide_eq_true_eq, bareB, itemsB] at h
    obtain ⟨⟨rfl, ⟨hi, _⟩, hl⟩, rfl, rfl, rfl, rfl, rfl⟩ := h
    refine ⟨2, putL items.length ++ items.flatMap itemL, by simp [encL], rfl, ?_⟩
    have := rdItemsR_app items [] hi
    rw [List.append_nil] at this
    simp [readR, nmR_app (show items.length ≤ 72057594037927936 by omega), this]
  by_cases h3 : kind = 3
  · subst h3
    simp only [show ¬ (3 : Int) = 1 by omega, show ¬ (3 : Int) = 2 by omega, if_false, if_true, Bool.and_eq_true, decide_eq_true_eq, parentsB, msgB] at h
    obtain ⟨⟨⟨⟨⟨⟨rfl, rfl⟩, ht⟩, ⟨hp, _⟩, hpl⟩, hs1, hs2⟩, ha1, ha2⟩, _, hml⟩ := h
    have hsz : msg.size = (bL msg).length := by simp [bL]
    refine ⟨3, rawL tree ++ (UInt8.ofNat parents.length :: parents.flatMap rawL) ++ putL stamp.toNat ++ putL author.toNat ++ putL msg.size ++ bL msg, by simp [encL], rfl, ?_⟩
    have e2 : (UInt8.ofNat parents.length).toNat = parents.length := by rw [UInt8.toNat_ofNat']; omega
    have e3 := tk_app (n := (bL msg).length) (l := bL msg) (r := []) rfl
    rw [List.append_nil] at e3
    simp only [readR, show ¬ (3 : Int) = 1 by omega, show ¬ (3 : Int) = 2 by omega, if_false, if_true, List.append_assoc, List.cons_append, hs_app (raw_len ht), on_app, e2, rdPars_app parents _ hp, nmR_app (show stamp.toNat ≤ 72057594037927936 by omega),
      nmR_app (show author.toNat ≤ 72057594037927936 by omega), hsz, nmR_app (show (bL msg).length ≤ 72057594037927936 by omega), e3, raw_hex ht, str_bL]
    refine Prod.ext ?_ rfl
    simp only []
    congr 1 <;> omega
  · rw [if_neg h1, if_neg h2, if_neg h3] at h; cases h
theorem decR_eq (b : List UInt8) : decR b = decO b := by
  match b with
  | [] => rfl
  | k :: r =>
    by_cases h : (readR (k.toNat : Int) r).2 = false ∧ mayB (readR (k.toNat : Int) r).1 = true ∧ encL (readR (k.toNat : Int) r).1 = k :: r
    · have h2 := dec_enc h.2.1
      rw [h.2.2] at h2
      rw [h2]
      unfold decR
      simp only []
      rw [if_pos h]
    · unfold decR
      simp only []
      rw [if_neg h]
      rcases dec_cases (k :: r) with ⟨h1, _⟩ | ⟨_, hd⟩ | ⟨o, hd, ho, he⟩
      · simp at h1
      · exact hd.symm
      · exfalso
        obtain ⟨k', r', f1, f2, f3⟩ := readR_enc ho
        rw [he] at f1
        cases f1
        rw [← f2] at f3
        exact h ⟨by rw [f3], by rw [f3]; exact ho, by rw [f3]; exact he⟩
end Go.Mx

/- Objects as bytes: the plain mathematics (no program in sight). -/
import Derived.Test.YtloogjdafhjheaaDoorHexP
import Derived.Test.YtloogjdafhjheaaDoorWireP
import Derived.Test.YtloogjdafhjheaaDoorOrd
namespace Go.Mx
open Go Go.RowKit

/-- An item of a tree: mode, name, hash. -/
abbrev Itm := Int × ByteArray × ByteArray
/-- An object. -/
structure Ob where
  kind : Int
  data : List UInt8
  items : List Itm
  tree : ByteArray
  parents : List ByteArray
  stamp : Int
  author : Int
  msg : ByteArray

def bL (s : ByteArray) : List UInt8 := s.data.toList
theorem bL_str (l : List UInt8) : bL (str l) = l := str_data l
theorem str_bL (s : ByteArray) : str (bL s) = s := str_toList s
theorem bL_inj {s t : ByteArray} (h : bL s = bL t) : s = t := by rw [← str_bL s, ← str_bL t, h]

def nameB (s : List UInt8) : Bool := s.all (fun c => decide (33 ≤ c.toNat ∧ c.toNat ≤ 126 ∧ c.toNat ≠ 47)) && decide (s ≠ [] ∧ s.length ≤ 64 ∧ s ≠ [46] ∧ s ≠ [46, 46])
def validB (s : ByteArray) : Bool := (unhexL (bL s)).any fun r => decide (r.length = 32)
def rawL (s : ByteArray) : List UInt8 := (unhexL (bL s)).getD []
/-- Each text above the one ahead of it. -/
def risesB : List ByteArray → Bool
  | [] => true
  | [_] => true
  | a :: b :: r => Op.bytesLess a.toList b.toList && risesB (b :: r)
def itemB (x : Itm) : Bool := decide (1 ≤ x.1 ∧ x.1 ≤ 4) && nameB (bL x.2.1) && validB x.2.2
def itemsB (l : List Itm) : Bool := l.all itemB && risesB (l.map fun x => x.2.1) && decide (l.length ≤ 256)
def parentsB (l : List ByteArray) : Bool := l.all validB && risesB l && decide (l.length ≤ 2)
def msgB (s : ByteArray) : Bool := (bL s).all (fun c => decide (32 ≤ c.toNat ∧ c.toNat ≤ 126)) && decide (s.size ≤ 200)
def bareB (o : Ob) : Bool := decide (o.tree = str [] ∧ o.parents = [] ∧ o.stamp = 0 ∧ o.author = 0 ∧ o.msg = str [])
/-- May it be an object? -/
def mayB (o : Ob) : Bool :=
  if o.kind = 1 then decide (o.data.length ≤ 20000) && decide (o.items = []) && bareB o
  else if o.kind = 2 then decide (o.data = []) && itemsB o.items && bareB o
  else if o.kind = 3 then decide (o.data = []) && decide (o.items = []) && validB o.tree && parentsB o.parents && decide (0 ≤ o.stamp ∧ o.stamp ≤ 1099511627776) && decide (0 ≤ o.author ∧ o.author ≤ 255) && msgB o.msg
  else false

def itemL (x : Itm) : List UInt8 := UInt8.ofNat x.1.toNat :: (putL x.2.1.size ++ bL x.2.1 ++ rawL x.2.2)
/-- Its bytes. -/
def encL (o : Ob) : List UInt8 :=
  if o.kind = 1 then 1 :: o.data
  else if o.kind = 2 then 2 :: (putL o.items.length ++ o.items.flatMap itemL)
  else 3 :: (rawL o.tree ++ (UInt8.ofNat o.parents.length :: o.parents.flatMap rawL) ++ putL o.stamp.toNat ++ putL o.author.toNat ++ putL o.msg.size ++ bL o.msg)

/-- What is read: the bytes that are left; were they too few? -/
abbrev Src := List UInt8 × Bool
def tk (n : Nat) (s : Src) : List UInt8 × Src := if s.2 = true ∨ s.1.length < n then ([], (s.1, true)) else (s.1.take n, (s.1.drop n, false))
def nm (s : Src) : Nat × Src := if (getS s.1 0).2.2 = 0 then ((getS s.1 0).1.toNat, (tk (getS s.1 0).2.1.toNat s).2) else (0, (s.1, true))
def on (s : Src) : Nat × Src := ((tk 1 s).1.headD 0 |>.toNat, (tk 1 s).2)
def hs (s : Src) : ByteArray × Src := (str (hexL (tk 32 s).1), (tk 32 s).2)
def rdItems : Nat → Src → List Itm × Src
  | 0, s => ([], s)
  | n + 1, s => if s.2 = true then ([], s) else
    let m := on s
    let k := nm m.2
    let t := tk k.1 k.2
    let h := hs t.2
    let r := rdItems n h.2
    (((m.1 : Int), str t.1, h.1) :: r.1, r.2)
def rdPars : Nat → Src → List ByteArray × Src
  | 0, s => ([], s)
  | n + 1, s => if s.2 = true then ([], s) else
    let h := hs s
    let r := rdPars n h.2
    (h.1 :: r.1, r.2)
/-- What stands behind the kind. -/
def readO (kind : Int) (b : List UInt8) : Ob :=
  if kind = 1 then ⟨kind, b, [], str [], [], 0, 0, str []⟩
  else if kind = 2 then
    let n := nm (b, false)
    ⟨kind, [], (rdItems n.1 n.2).1, str [], [], 0, 0, str []⟩
  else if kind = 3 then
    let t := hs (b, false)
    let n := on t.2
    let p := rdPars n.1 n.2
    let s := nm p.2
    let a := nm s.2
    let k := nm a.2
    let m := tk k.1 k.2
    ⟨kind, [], [], t.1, p.1, s.1, a.1, str m.1⟩
  else ⟨kind, [], [], str [], [], 0, 0, str []⟩
def noOb : Ob := ⟨0, [], [], str [], [], 0, 0, str []⟩
/-- What Decode tells. -/
def decO (b : List UInt8) : Ob × Int :=
  match b with
  | [] => (noOb, 2)
  | k :: r => if mayB (readO (k.toNat : Int) r) = true ∧ encL (readO (k.toNat : Int) r) = b then (readO (k.toNat : Int) r, 0) else (noOb, 4)

theorem tk_app {n : Nat} {l r : List UInt8} (h : l.length = n) : tk n (l ++ r, false) = (l, (r, false)) := by
  subst h
  unfold tk
  rw [if_neg (by simp)]
  simp
theorem nm_app {x : Nat} (h : x ≤ 72057594037927936) (r : List UInt8) : nm (putL x ++ r, false) = (x, (r, false)) := by
  have h1 := hiN_put x
  have h0 := putL_ne x
  have h2 : hiN (putL x ++ r) = hiN (putL x) := hiN_app (by omega)
  have h3 : (putL x ++ r).take (hiN (putL x) + 1) = putL x := by rw [h1]; exact List.take_left
  have h4 : (putL x).length ≤ 9 := by
    have := putL_le 9 x (by have : (128 : Nat) ^ 9 = 9223372036854775808 := by decide
                            omega)
    omega
  have h5 := valL_put x
  have hg : getS (putL x ++ r) 0 = ((x : Int), ((putL x).length : Int), 0) := by
    unfold getS
    rw [if_neg (by simp; omega)]
    simp only [show Int.toNat 0 = 0 from rfl, List.drop_zero, h2, h3, h5, Nat.zero_add]
    have hl := @List.length_append _ (putL x) r
    by_cases hr : hiN (putL x) = (putL x ++ r).length
    · omega
    · rw [if_neg hr, if_neg (by simp; omega)]
      refine Prod.ext rfl (Prod.ext ?_ rfl)
      show ((0 : Int) + (hiN (putL x) : Int)) + 1 = ((putL x).length : Int)
      omega
  unfold nm
  simp only [hg]
  rw [if_pos trivial]
  simp only [Int.toNat_natCast]
  rw [tk_app rfl]
theorem on_app (c : UInt8) (r : List UInt8) : on (c :: r, false) = (c.toNat, (r, false)) := by
  have := tk_app (n := 1) (l := [c]) (r := r) rfl
  unfold on
  rw [show (c :: r) = [c] ++ r from rfl, this]
  rfl
theorem hs_app {l r : List UInt8} (h : l.length = 32) : hs (l ++ r, false) = (str (hexL l), (r, false)) := by
  unfold hs
  rw [tk_app h]

theorem hexI_back (c : UInt8) (h : 0 ≤ hexI c) : dig (hexI c).toNat = c := by
  have : ∀ n : Nat, n < 256 → 0 ≤ hexI (UInt8.ofNat n) → dig (hexI (UInt8.ofNat n)).toNat = UInt8.ofNat n := by decide +kernel
  have h2 := this c.toNat c.toNat_lt
  rw [UInt8.ofNat_toNat] at h2
  exact h2 h
theorem hex_unhex : ∀ (n : Nat) (l r : List UInt8), l.length = n → unhexL l = some r → hexL r = l
  | 0, [], r, _, h => by simp [unhexL] at h; subst h; rfl
  | 1, [x], r, _, h => by simp [unhexL] at h
  | n + 2, a :: b :: l, r, hl, h => by
    rw [unhexL] at h
    split at h
    · cases h
    · rename_i hab
      obtain ⟨r', hr, rfl⟩ := Option.map_eq_some_iff.1 h
      have ih := hex_unhex n l r' (by simpa using hl) hr
      have ha := hexI_hi a
      have hb := hexI_hi b
      have e : (UInt8.ofNat (16 * hexI a + hexI b).toNat).toNat = (16 * hexI a + hexI b).toNat := by rw [UInt8.toNat_ofNat']; omega
      rw [hexL, ih, e, show (16 * hexI a + hexI b).toNat / 16 = (hexI a).toNat by omega, show (16 * hexI a + hexI b).toNat % 16 = (hexI b).toNat by omega, hexI_back a (by omega), hexI_back b (by omega)]
theorem raw_len {s : ByteArray} (h : validB s = true) : (rawL s).length = 32 := by
  unfold validB at h
  unfold rawL
  cases hu : unhexL (bL s) with
  | none => rw [hu] at h; cases h
  | some r => rw [hu] at h; simpa using h
theorem raw_hex {s : ByteArray} (h : validB s = true) : str (hexL (rawL s)) = s := by
  unfold validB at h
  unfold rawL
  cases hu : unhexL (bL s) with
  | none => rw [hu] at h; cases h
  | some r =>
    rw [Option.getD_some, hex_unhex _ _ r rfl hu, str_bL]

theorem rdItems_app : ∀ (l : List Itm) (r : List UInt8), l.all itemB = true → rdItems l.length (l.flatMap itemL ++ r, false) = (l, (r, false))
  | [], r, _ => rfl
  | (m, nme, id) :: l, r, h => by
    rw [List.all_cons, Bool.and_eq_true] at h
    obtain ⟨hx, hl⟩ := h
    simp only [itemB, Bool.and_eq_true, decide_eq_true_eq] at hx
    obtain ⟨⟨hm, hn⟩, hv⟩ := hx
    have hsz : nme.size = (bL nme).length := by simp [bL]
    have hn2 : (bL nme).length ≤ 64 := by
      simp only [nameB, Bool.and_eq_true, decide_eq_true_eq] at hn
      exact hn.2.2.1
    have e1 : ((m, nme, id) :: l).flatMap itemL ++ r = UInt8.ofNat m.toNat :: (putL nme.size ++ (bL nme ++ (rawL id ++ (l.flatMap itemL ++ r)))) := by
      simp [itemL]
    have e2 : ((UInt8.ofNat m.toNat).toNat : Int) = m := by rw [UInt8.toNat_ofNat']; omega
    rw [List.length_cons, e1, rdItems, if_neg (by simp)]
    simp only [on_app, hsz, nm_app (show (bL nme).length ≤ 72057594037927936 by omega), tk_app rfl, hs_app (raw_len hv), rdItems_app l r hl, raw_hex hv, str_bL, e2]
theorem rdPars_app : ∀ (l : List ByteArray) (r : List UInt8), l.all validB = true → rdPars l.length (l.flatMap rawL ++ r, false) = (l, (r, false))
  | [], r, _ => rfl
  | s :: l, r, h => by
    rw [List.all_cons, Bool.and_eq_true] at h
    rw [List.length_cons, List.flatMap_cons, List.append_assoc, rdPars, if_neg (by simp)]
    simp only [hs_app (raw_len h.1), rdPars_app l r h.2, raw_hex h.1]

/-- An object that is bytes is read as itself (whatever stands behind a tree or a commit). -/
theorem read_enc {o : Ob} (h : mayB o = true) : ∃ k r, encL o = k :: r ∧ (k.toNat : Int) = o.kind ∧ readO o.kind r = o := by
  obtain ⟨kind, data, items, tree, parents, stamp, author, msg⟩ := o
  unfold mayB at h
  simp only [] at h
  by_cases h1 : kind = 1
  · subst h1
    simp only [if_true, Bool.and_eq_true, decide_eq_true_eq, bareB] at h
    obtain ⟨⟨_, rfl⟩, rfl, rfl, rfl, rfl, rfl⟩ := h
    exact ⟨1, data, by simp [encL], rfl, by simp [readO]⟩
  by_cases h2 : kind = 2
  · subst h2
    simp only [show ¬ (2 : Int) = 1 by omega, if_false, if_true, Bool.and_eq_true, decide_eq_true_eq, bareB, itemsB] at h
    obtain ⟨⟨rfl, ⟨hi, _⟩, hl⟩, rfl, rfl, rfl, rfl, rfl⟩ := h
    refine ⟨2, putL items.length ++ items.flatMap itemL, by simp [encL], rfl, ?_⟩
    have := rdItems_app items [] hi
    rw [List.append_nil] at this
    simp [readO, nm_app (show items.length ≤ 72057594037927936 by omega), this]
  by_cases h3 : kind = 3
  · subst h3
    simp only [show ¬ (3 : Int) = 1 by omega, show ¬ (3 : Int) = 2 by omega, if_false, if_true, Bool.and_eq_true, decide_eq_true_eq, parentsB, msgB] at h
    obtain ⟨⟨⟨⟨⟨⟨rfl, rfl⟩, ht⟩, ⟨hp, _⟩, hpl⟩, hs1, hs2⟩, ha1, ha2⟩, _, hml⟩ := h
    have hsz : msg.size = (bL msg).length := by simp [bL]
    refine ⟨3, rawL tree ++ (UInt8.ofNat parents.length :: parents.flatMap rawL) ++ putL stamp.toNat ++ putL author.toNat ++ putL msg.size ++ bL msg, by simp [encL], rfl, ?_⟩
    have e2 : (UInt8.ofNat parents.length).toNat = parents.length := by rw [UInt8.toNat_ofNat']; omega
    have e3 := tk_app (n := (bL msg).length) (l := bL msg) (r := []) rfl
    rw [List.append_nil] at e3
    simp only [readO, show ¬ (3 : Int) = 1 by omega, show ¬ (3 : Int) = 2 by omega, if_false, if_true, List.append_assoc, List.cons_append, hs_app (raw_len ht), on_app, e2, rdPars_app parents _ hp, nm_app (show stamp.toNat ≤ 72057594037927936 by omega),
      nm_app (show author.toNat ≤ 72057594037927936 by omega), hsz, nm_app (show (bL msg).length ≤ 72057594037927936 by omega), e3, raw_hex ht, str_bL]
    congr 1 <;> omega
  · rw [if_neg h1, if_neg h2, if_neg h3] at h; cases h
theorem dec_enc {o : Ob} (h : mayB o = true) : decO (encL o) = (o, 0) := by
  obtain ⟨k, r, e1, e2, e3⟩ := read_enc h
  rw [e1]
  unfold decO
  simp only []
  rw [e2, e3, if_pos ⟨h, e1⟩]
theorem dec_ok {b : List UInt8} {o : Ob} (h : decO b = (o, 0)) : mayB o = true ∧ encL o = b := by
  unfold decO at h
  split at h
  · cases h
  · split at h
    · rename_i h2
      cases h
      exact h2
    · cases h
theorem enc_inj {o p : Ob} (ho : mayB o = true) (hp : mayB p = true) (h : encL o = encL p) : o = p := by
  have h1 := dec_enc ho
  rw [h, dec_enc hp] at h1
  cases h1; rfl
end Go.Mx

/- The walk of the document's Decode. -/
import Derived.Test.YtloogjdafhjheaaGreatJ25R6R
import Derived.Deep.DeepCutAuto
import Derived.Deep.CutBlock
namespace Go.Mx
open Go Go.RowKit
def OC (dv iv pv : Value) (o : Ob) : List Value := [.int .i64 o.kind, dv, iv, .string o.tree, pv, .int .i64 o.stamp, .int .i64 o.author, .string o.msg]
theorem St.up2 {w0 w : World} {R : List Row} {Q : List Rd} {a b c : Row} (h : St w0 w (a :: b :: c :: R) Q) : St w0 w (c :: a :: b :: R) Q := h.perm (List.perm_middle (l₁ := [a, b]) (a := c) (l₂ := R))
theorem St.up3 {w0 w : World} {R : List Row} {Q : List Rd} {a b c d : Row} (h : St w0 w (a :: b :: c :: d :: R) Q) : St w0 w (d :: a :: b :: c :: R) Q := h.perm (List.perm_middle (l₁ := [a, b, c]) (a := d) (l₂ := R))
theorem St.up4 {w0 w : World} {R : List Row} {Q : List Rd} {a b c d e : Row} (h : St w0 w (a :: b :: c :: d :: e :: R) Q) : St w0 w (e :: a :: b :: c :: d :: R) Q := h.perm (List.perm_middle (l₁ := [a, b, c, d]) (a := e) (l₂ := R))
theorem St.up5 {w0 w : World} {R : List Row} {Q : List Rd} {a b c d e f : Row} (h : St w0 w (a :: b :: c :: d :: e :: f :: R) Q) : St w0 w (f :: a :: b :: c :: d :: e :: R) Q := h.perm (List.perm_middle (l₁ := [a, b, c, d, e]) (a := f) (l₂ := R))
end Go.Mx
namespace Go.Proofs.YtloogjdafhjheaaGreat
open Go.RowKit Go.Mx

abbrev obR6 (dv iv pv : Value) (o : Ob) : List Row := [⟨dv, 5, 1, o.data.length, bs o.data⟩, ⟨iv, 104, 3, o.items.length, itms o.items⟩, ⟨pv, 9, 1, o.parents.length, ss o.parents⟩]
abbrev TR (go gz gr : Nat) (vB : Value) (p : Nat) (sh : Bool) (dv iv pv : Value) (o : Ob) : List Row := (⟨.slice (some ⟨go, 0, none⟩) 1 1, 76, 8, 1, OC dv iv pv o⟩ : Row) :: (⟨.slice (some ⟨gz, 0, none⟩) 1 1, 76, 8, 1, [.int .i64 (0), .slice none 0 0, .slice none 0 0, .string (str []), .slice none 0 0, .int .i64 (0), .int .i64 (0), .string (str [])]⟩ : Row) :: (⟨.slice (some ⟨gr, 0, none⟩) 1 1, 102, 3, 1, [vB, .int .i64 (p : Int), .bool sh]⟩ : Row) :: obR6 dv iv pv o
def RDecPost (w : World) (b : List UInt8) (e : Ending) (w' : World) : Prop :=
  ∃ dv iv pv, e = .returned (.tuple #[OV dv iv pv (decO b).1, .int .i64 (decO b).2]) ∧ St w w' (obR6 dv iv pv (decO b).1) []

theorem Tryz.elItem6 : El Tryz.prog 74 104 3 40 := El.mk' Tryz.underlying74 (z := .agg #[.int .i64 0, .string ByteArray.empty, .string ByteArray.empty]) (by kernel_rfl) rfl (by omega)

set_option maxRecDepth 200000 in
set_option maxHeartbeats 4000000 in
theorem rdec_cons (v : Value) (k : UInt8) (r : List UInt8) (w : World) (hv : Sl w 1 v (k :: r).length (bs (k :: r))) (hl : (k :: r).length ≤ 1000000000) :
    Calls Tryz.prog 33 #[v] w (RDecPost w (k :: r)) := by
  have HQ : Hid (∀ o b, readR (k.toNat : Int) r = (o, b) → decO (k :: r) = if b = false ∧ mayB o = true ∧ encL o = k :: r then (o, 0) else (noOb, 4)) := fun o b h => by rw [← decR_eq]; unfold decR; simp only [h]
  have hrl : r.length ≤ 1000000000 := by simp at hl; omega
  have HOZ := Mx.hid (readR_ok (k.toNat : Int) r hrl)
  have HB1 : Hid ((k :: r).drop 1 = r) := rfl
  have HV := Mx.hid hv
  obtain ⟨ao, cap, blk, off, rfl, h1, h2, _, hc⟩ := hv.byt
  obtain ⟨rfl, c0⟩ := hc 0 (by simp)
  have HC := Mx.hid (fun (w' : World) (R : List Row) (Q : List Rd) (h : St w w' R Q) => h.keep c0)
  have hs0 := (St.refl w).madeAt ([.int .i64 (0), .slice none 0 0, .slice none 0 0, .string (str []), .slice none 0 0, .int .i64 (0), .int .i64 (0), .string (str [])]).toArray 76 8 1 w.heap.size rfl (by simp [maxLen]) rfl
  simp only [Nat.add_zero, List.getElem_cons_zero] at c0 HC
  have hk := u8_lt k
  have hw64 : wrap64 (k.toNat : Int) = (k.toNat : Int) := by unfold wrap64; omega
  have hww : IntKind.i64.wrap (k.toNat : Int) = (k.toNat : Int) := IntWalk.i64_in _ (by omega)
  have hbl : 1 ≤ (k :: r).length := by simp
  have HRL := Mx.hid (show r.length + 1 = (k :: r).length from rfl)
  generalize hB : k :: r = B at *
  have HB := Mx.hid hB
  have hne : ¬ ((B.length : Int) = 0) := by omega
  clear hv hc hB c0
  go_enter Tryz.func33, Tryz.ntmps33
  go_upto_block 0 with (first | (go_at_call 22; refine (copyBytes_any _ B _ (hs0.old HV.out) (by omega)).mono ?_; rintro e w1 ⟨vB, rfl, hk1⟩; obtain ⟨bo, bc, rfl, _⟩ := id hk1.sl0; have hs1 := (hs0.call1 hk1).freeze; simp only [] at hs1; have hc1 := HC.out _ _ _ hs1) | (((with_reducible show wpList _ _ _ _ _ _); refine wpl_box rfl 102 _ rfl hs1 ([.slice bo B.length bc, .int .i64 1, .bool false]) (by rfl) ?_; intro gx w3 hs3); have hc3 := HC.out _ _ _ hs3) | (((with_reducible show wpList _ _ _ _ _ _); refine wpl_storeA rfl 76 _ _ rfl Tryz.aObj6 (hs3.madeAt ([.int .i64 (0), .slice none 0 0, .slice none 0 0, .string (str []), .slice none 0 0, .int .i64 (0), .int .i64 (0), .string (str [])]).toArray 76 8 1 _ rfl (by simp [maxLen]) rfl) (0) rfl ([.int .i64 ((k.toNat : Int)), .slice none 0 0, .slice none 0 0, .string (str []), .slice none 0 0, .int .i64 (0), .int .i64 (0), .string (str [])]) rfl (by rfl) (by simp) (by intro u hu; simp at hu; rcases hu with rfl | rfl | rfl | rfl | rfl | rfl | rfl | rfl <;> rfl) ?_; intro w4 hs4); have x0 := hs4.cell (j := 0) rfl))
  go_cut [6, 7, 8, 9, 10, 11] (fun _ _ _ _ _ _ wx => ∃ (dv iv pv : Value) (p' : Nat) (sh : Bool) (o : Ob), Hid (readR (k.toNat : Int) r = (o, sh)) ∧ St w wx (TR w3.heap.size w.heap.size gx (.slice bo B.length bc) p' sh dv iv pv o) [(⟨.slice bo B.length bc, 1, (B).length, bs (B)⟩ : Rd)])
  case first =>
    have hs5 := (hs4.cast rfl (show _ = [.int .i64 ((k.toNat : Int)), .slice none 0 0, .slice none 0 0, .string (str []), .slice none 0 0, .int .i64 (0), .int .i64 (0), .string (str [])] by simp)).swap
    have x0 := hs5.rcell (j := 0) (List.mem_cons_of_mem _ (List.mem_cons_self ..)) rfl
    clear hs4 hs3 hs1 hc1 hc3 hk1 hs0
    have hs5 : St w w4 [(⟨.slice (some ⟨gx, 0, none⟩) 1 1, 102, 3, 1, [.slice bo B.length bc, .int .i64 (1 : Int), .bool false]⟩ : Row), (⟨.slice (some ⟨w3.heap.size, 0, none⟩) 1 1, 76, 8, 1, [.int .i64 ((k.toNat : Int)), .slice none 0 0, .slice none 0 0, .string (str []), .slice none 0 0, .int .i64 (0), .int .i64 (0), .string (str [])]⟩ : Row), (⟨.slice (some ⟨w.heap.size, 0, none⟩) 1 1, 76, 8, 1, [.int .i64 (0), .slice none 0 0, .slice none 0 0, .string (str []), .slice none 0 0, .int .i64 (0), .int .i64 (0), .string (str [])]⟩ : Row)] [(⟨.slice bo B.length bc, 1, (B).length, bs (B)⟩ : Rd)] := hs5
    generalize w3.heap.size = go at *
    generalize w.heap.size = gz at *
    generalize (k.toNat : Int) = kk at *
    clear hw64 hww hk
    by_cases k1 : kk = 1
    · subst k1
      have HR := Mx.hid (show readR 1 r = (⟨1, r, [], str [], [], 0, 0, str []⟩, false) by unfold readR; rw [if_pos rfl])
      have htk : tk r.length (B.drop 1, false) = (r, ([], false)) := by rw [HB1.out, tk_go (Nat.le_refl _), List.take_length, List.drop_length]
      have HT := Mx.hid (take_r r.length hs5 hbl (by omega) (by omega))
      rw [htk] at HT
      have q1 : IntKind.i64.wrap ((B.length : Int) - 1) = (r.length : Int) := by rw [IntWalk.i64_in _ (by omega)]; have := HRL.out; omega
      clear htk
      go_wp2_with (first | (go_at_call 51; refine HT.out.mono ?_; rintro e w7 ⟨vx, p7, sh7, rfl, hs7, hp7, hd7⟩; obtain ⟨xo, xc, rfl, _⟩ := id hs7.sl0; have hs8 := hs7.up2) | ((with_reducible show wpList _ _ _ _ _ _); refine wpl_store1 rfl 51 _ _ rfl hs8 (1) rfl (.slice xo r.length xc) rfl rfl (by kernel_rfl) (by simp) rfl ?_; intro w9 hs9))
      go_meet
      simp only [Prod.mk.injEq] at hd7
      obtain ⟨hd7, rfl⟩ := hd7
      have hs10 : St w w9 [(⟨.slice (some ⟨go, 0, none⟩) 1 1, 76, 8, 1, OC (.slice xo r.length xc) (.slice none 0 0) (.slice none 0 0) ⟨1, r, [], str [], [], 0, 0, str []⟩⟩ : Row), (⟨.slice xo r.length xc, 5, 1, (r).length, bs (r)⟩ : Row), (⟨.slice (some ⟨gx, 0, none⟩) 1 1, 102, 3, 1, [.slice bo B.length bc, .int .i64 (p7 : Int), .bool false]⟩ : Row), (⟨.slice (some ⟨gz, 0, none⟩) 1 1, 76, 8, 1, [.int .i64 (0), .slice none 0 0, .slice none 0 0, .string (str []), .slice none 0 0, .int .i64 (0), .int .i64 (0), .string (str [])]⟩ : Row)] [(⟨.slice bo B.length bc, 1, (B).length, bs (B)⟩ : Rd)] := hs9.cast rfl (by simp [OC])
      exact ⟨_, _, _, p7, false, _, HR, ((hs10.addNil 9 1).addNil 104 3).up3.up4.up5.up5⟩
    have qk1 : (kk == 1) = false := by simpa using k1
    by_cases k2 : kk = 2
    · subst k2
      have HN := Mx.hid (num_r hs5 hbl (by omega))
      rw [HB1.out] at HN
      have hle := nmR_le (r, false)
      have hnm := nmR_max (r, false)
      generalize hn0 : nmR (r, false) = t0 at *
      obtain ⟨n, s0⟩ := t0
      have HN0 := Mx.hid hn0
      have HLE := Mx.hid hle
      simp only [] at HN hnm
      clear hn0 hle
      go_wp2_with (first | (go_at_call 52; refine HN.out.mono ?_; rintro e w5 ⟨p5, sh5, rfl, hs6, hp5, hd5⟩; have HD5 := Mx.hid hd5))
      have hs7 : St w w5 [(⟨.slice (some ⟨gx, 0, none⟩) 1 1, 102, 3, 1, [.slice bo B.length bc, .int .i64 (p5 : Int), .bool sh5]⟩ : Row), ⟨.slice none 0 0, 104, 3, 0, []⟩, (⟨.slice (some ⟨go, 0, none⟩) 1 1, 76, 8, 1, OC (.slice none 0 0) (.slice none 0 0) (.slice none 0 0) ⟨2, [], [], str [], [], 0, 0, str []⟩⟩ : Row), (⟨.slice (some ⟨gz, 0, none⟩) 1 1, 76, 8, 1, [.int .i64 (0), .slice none 0 0, .slice none 0 0, .string (str []), .slice none 0 0, .int .i64 (0), .int .i64 (0), .string (str [])]⟩ : Row)] [(⟨.slice bo B.length bc, 1, (B).length, bs (B)⟩ : Rd)] := (hs6.addNil 104 3).swap
      clear hs6 hs5 hd5
      go_loopw [7] (fun y wr => ∃ (i p' : Nat) (done : List Itm) (sh : Bool) (iv : Value), y = .int .i64 i ∧ i ≤ n ∧ p' ≤ B.length ∧ Hid (rdItemsR n s0 = (done ++ (rdItemsR (n - i) (B.drop p', sh)).1, (rdItemsR (n - i) (B.drop p', sh)).2)) ∧ Hid ((sh = false → done.length + (B.length - p') ≤ B.length) ∧ done.length ≤ B.length + 1) ∧ St w wr [(⟨.slice (some ⟨gx, 0, none⟩) 1 1, 102, 3, 1, [.slice bo B.length bc, .int .i64 (p' : Int), .bool sh]⟩ : Row), ⟨iv, 104, 3, done.length, itms done⟩, (⟨.slice (some ⟨go, 0, none⟩) 1 1, 76, 8, 1, OC (.slice none 0 0) iv (.slice none 0 0) ⟨2, [], done, str [], [], 0, 0, str []⟩⟩ : Row), (⟨.slice (some ⟨gz, 0, none⟩) 1 1, 76, 8, 1, [.int .i64 (0), .slice none 0 0, .slice none 0 0, .string (str []), .slice none 0 0, .int .i64 (0), .int .i64 (0), .string (str [])]⟩ : Row)] [(⟨.slice bo B.length bc, 1, (B).length, bs (B)⟩ : Rd)]) (fun y _ => n - (intOf y).toNat)
      case atStart => exact ⟨0, p5, [], sh5, _, rfl, by omega, hp5, (by show _ = _; rw [HD5.out]; simp), ⟨fun _ => by simp, by simp⟩, hs7⟩
      case round =>
        obtain ⟨i, p', done, sh, iv, rfl, hi, hp', HE, HL, hs⟩ := hrel
        have y0 : wr.cell? ⟨gx, 2, none⟩ = some (.bool sh) := hs.cell (j := 2) rfl
        clear hs7
        by_cases hstop : sh = true ∨ i = n
        · have HF := Mx.hid (readR_two (t := done) (s := (B.drop p', sh)) HN0.out (by rw [HE.out, rdItemsR_stop (hstop.imp id (by omega))]; simp))
          have hs9 := ((hs.addNil 9 1).up2.addNil 5 1).up3.up5.up5
          by_cases hin : i = n
          · have q1 : decide ((i : Int) < (n : Int)) = false := decide_eq_false (by omega)
            have q2 : decide (i < n) = false := decide_eq_false (by omega)
            clear hin hstop hi
            go_wp2_with (first | ((with_reducible show wpList _ _ _ _ _ _); refine wpl_want rfl ?_))
            go_meet
            exact ⟨_, _, _, p', sh, _, HF, hs9⟩
          · obtain rfl : sh = true := by rcases hstop with h | h; exact h; exact absurd h hin
            have hlt : i < n := by omega
            clear hin hstop
            go_wp2_with (first | ((with_reducible show wpList _ _ _ _ _ _); refine wpl_want rfl ?_))
            go_meet
            exact ⟨_, _, _, p', true, _, HF, hs9⟩
        · obtain rfl : sh = false := by cases sh with
            | false => rfl
            | true => exact absurd (.inl rfl) hstop
          have hlt : i < n := by rcases Nat.lt_or_ge i n with h | h; exact h; exact absurd (.inr (by omega)) hstop
          have hdl := HL.out.2
          have HL0 := Mx.hid (show done.length + (B.length - p') ≤ B.length from HL.out.1 rfl)
          have l1 := on_le (B.drop p', false)
          have l1b := on_lt (B.drop p', false)
          have H1 := Mx.hid (byte_r hs hp' (by omega))
          generalize hA : on (B.drop p', false) = A at *
          have HA := Mx.hid hA
          clear hA
          obtain ⟨m, s1⟩ := A
          have l2 := nmR_le s1
          have hk := nmR_max s1
          have H2 : Hid (∀ wx q b R, q ≤ B.length → (B.drop q, b) = s1 → St w wx ((⟨.slice (some ⟨gx, 0, none⟩) 1 1, 102, 3, 1, [.slice bo B.length bc, .int .i64 (q : Int), .bool b]⟩ : Row) :: R) [(⟨.slice bo B.length bc, 1, (B).length, bs (B)⟩ : Rd)] → Calls Tryz.prog 52 #[.pointer (some ⟨gx, 0, none⟩)] wx (RNumPost w R [] gx (.slice bo B.length bc) B (.int .i64 ((nmR s1).1 : Int)) (nmR s1).2)) := fun wx q b R h hd hs => by have := num_r hs h (by omega); rwa [hd] at this
          generalize hA2 : nmR s1 = A2 at *
          have HA2 := Mx.hid hA2
          clear hA2
          obtain ⟨k, s2⟩ := A2
          have l3 := tk_le k s2
          have l3x := tk_x k s2
          have H3 : Hid (∀ wx q b R, q ≤ B.length → (B.drop q, b) = s2 → St w wx ((⟨.slice (some ⟨gx, 0, none⟩) 1 1, 102, 3, 1, [.slice bo B.length bc, .int .i64 (q : Int), .bool b]⟩ : Row) :: R) [(⟨.slice bo B.length bc, 1, (B).length, bs (B)⟩ : Rd)] → Calls Tryz.prog 51 #[.pointer (some ⟨gx, 0, none⟩), .int .i64 (k : Int)] wx (RTakePost w R [] gx (.slice bo B.length bc) B (tk k s2))) := fun wx q b R h hd hs => by have := take_r k hs h (by omega) hk; rwa [hd] at this
          generalize hA3 : tk k s2 = A3 at *
          have HA3 := Mx.hid hA3
          clear hA3
          obtain ⟨x, s3⟩ := A3
          have l4 := Mx.hs_le s3
          have H4 : Hid (∀ wx q b R, q ≤ B.length → (B.drop q, b) = s3 → St w wx ((⟨.slice (some ⟨gx, 0, none⟩) 1 1, 102, 3, 1, [.slice bo B.length bc, .int .i64 (q : Int), .bool b]⟩ : Row) :: R) [(⟨.slice bo B.length bc, 1, (B).length, bs (B)⟩ : Rd)] → Calls Tryz.prog 51 #[.pointer (some ⟨gx, 0, none⟩), .int .i64 32] wx (RTakePost w R [] gx (.slice bo B.length bc) B (tk 32 s3))) := fun wx q b R h hd hs => by have := take_r 32 hs h (by omega) (by omega); rwa [hd] at this
          have hA4 : Mx.hs s3 = (str (hexL (tk 32 s3).1), (tk 32 s3).2) := rfl
          have hy32 : (tk 32 s3).1.length ≤ 32 := by unfold tk; split <;> simp; omega
          rw [hA4] at l4
          generalize hA5 : tk 32 s3 = A5 at *
          obtain ⟨yy, s4⟩ := A5
          have HS := Mx.hid (rdItemsR_step (n := n - (i + 1)) HA.out HA2.out HA3.out hA4)
          simp only [] at *
          have L4 := Mx.hid ((l4.trans l3).trans (l2.trans l1))
          have LT := Mx.hid (show s4.2 = false → s4.1.length + 1 ≤ (B.drop p').length from fun h => by
            have e1 := ((l4.trans l3).trans l2)
            have e2 := l1b (e1.2 h)
            have e3 := e1.1
            omega)
          have HA5 := Mx.hid hA5
          have Hy32 := Mx.hid hy32
          clear l1 l1b l2 l3 l3x l4 hk hstop hA4 hA5 hy32
          clear HA HA2 HA3 HA5 HN0
          go_wp2_with (first | ((with_reducible show wpList _ _ _ _ _ _); refine wpl_want rfl ?_) | (go_at_call 53; refine H1.out.mono ?_; rintro e w5 ⟨p5, b5, rfl, hs5, hp5, hd5⟩) | (go_at_call 52; refine (H2.out _ _ _ _ hp5 hd5 hs5).mono ?_; rintro e w6 ⟨p6, b6, rfl, hs6, hp6, hd6⟩) | (go_at_call 51; refine (H3.out _ _ _ _ hp6 hd6 hs6).mono ?_; rintro e w7 ⟨vx, p7, b7, rfl, hs7, hp7, hd7⟩; replace hs7 := hs7.swap))
          have hx7 := hs7.sl1
          obtain ⟨xo, xc, rfl, _⟩ := id hx7
          have x2 := hs7.rcell (j := 2) (List.mem_cons_of_mem _ (List.mem_cons_of_mem _ (List.mem_cons_of_mem _ (List.mem_cons_self ..)))) rfl
          have HD7 := Mx.hid (And.intro hp7 hd7)
          clear hs5 hs6 hd5 hd6 hp5 hp6 hp7 hd7
          (refine wp_region_S (11) (fun W' => W'.cell? ⟨go, 2, none⟩ = some iv ∧ Sl W' 1 (.slice xo x.length xc) x.length (bs x)) (by kernel_rfl) ?_ (fun hHeld => ?_); (focus ((try dsimp only); exact ⟨x2, hx7⟩)))
          (refine wpAnyS_takeL (i := 0) (v := ?_) rfl (by kernel_rfl) (by kernel_rfl) (by kernel_rfl) (by kernel_rfl) (by kernel_rfl) (by kernel_rfl) (fun _ _ _ h => h) (Or.inl ⟨by rfl, ?_⟩) hHeld ?_; rotate_left 1; (focus (intro w' hSw; (try dsimp only at hSw); go_simp; (try with_reducible rfl))); (try simp only [Act.put, List.setIfInBounds_toArray, List.set_cons_zero, List.set_cons_succ]))
          (refine wpAnyS_takeL (i := 1) (v := ?_) rfl (by kernel_rfl) (by kernel_rfl) (by kernel_rfl) (by kernel_rfl) (by kernel_rfl) (by kernel_rfl) (fun _ _ _ h => h) (Or.inl ⟨by rfl, ?_⟩) hHeld ?_; rotate_left 1; (focus (intro w' hSw; (try dsimp only at hSw); go_simp; (try with_reducible rfl))); (try simp only [Act.put, List.setIfInBounds_toArray, List.set_cons_zero, List.set_cons_succ]))
          (refine wpAnyS_takeL (i := 2) (v := ?_) rfl (by kernel_rfl) (by kernel_rfl) (by kernel_rfl) (by kernel_rfl) (by kernel_rfl) (by kernel_rfl) (fun _ _ _ h => h) (Or.inl ⟨by rfl, ?_⟩) hHeld ?_; rotate_left 1; (focus (intro w' hSw; (try dsimp only at hSw); go_simp; (try with_reducible rfl))); (try simp only [Act.put, List.setIfInBounds_toArray, List.set_cons_zero, List.set_cons_succ]))
          (refine wpAnyS_takeL (i := 3) (v := ?_) rfl (by kernel_rfl) (by kernel_rfl) (by kernel_rfl) (by kernel_rfl) (by kernel_rfl) (by kernel_rfl) (fun _ _ _ h => h) (Or.inl ⟨by rfl, ?_⟩) hHeld ?_; rotate_left 1; (focus (intro w' hSw; (try dsimp only at hSw); go_simp; (try with_reducible rfl))); (try simp only [Act.put, List.setIfInBounds_toArray, List.set_cons_zero, List.set_cons_succ]))
          (refine wpAnyS_takeL (i := 4) (v := ?_) rfl (by kernel_rfl) (by kernel_rfl) (by kernel_rfl) (by kernel_rfl) (by kernel_rfl) (by kernel_rfl) (fun _ _ _ h => h) (Or.inl ⟨by rfl, ?_⟩) hHeld ?_; rotate_left 1; (focus (intro w' hSw; (try dsimp only at hSw); have hcv := run_b2s (P := Tryz.prog) 51 9 5 hSw.2 Tryz.underlying51 Tryz.underlying5 Tryz.underlying9; go_simp; (try with_reducible rfl))); (try simp only [Act.put, List.setIfInBounds_toArray, List.set_cons_zero, List.set_cons_succ]))
          (refine wpAnyS_takeL (i := 5) (v := ?_) rfl (by kernel_rfl) (by kernel_rfl) (by kernel_rfl) (by kernel_rfl) (by kernel_rfl) (by kernel_rfl) (fun _ _ _ h => h) (Or.inl ⟨by rfl, ?_⟩) hHeld ?_; rotate_left 1; (focus (intro w' hSw; (try dsimp only at hSw); go_simp; (try with_reducible rfl))); (try simp only [Act.put, List.setIfInBounds_toArray, List.set_cons_zero, List.set_cons_succ]))
          (refine wpAnyS_ready (rs := [6]) (by kernel_rfl) (by simp) ?_; refine AllS.consL rfl (fun K hK => ?_) AllS.nil)
          (go_simp; go_at_call 51; refine (H4.out _ _ _ _ HD7.out.1 HD7.out.2 hs7.drew).mono ?_; rintro e w' ⟨vy, p8, b8, rfl, hs8, hp8, hd8⟩; go_wp2_with fail)
          obtain ⟨yo, yc, rfl, _⟩ := id hs8.sl0
          (refine hK.out _ _ ?_ (fun hHeld => ?_); (focus ((try dsimp only); exact ⟨hs8.rcell (j := 2) (List.mem_cons_of_mem _ (List.mem_cons_of_mem _ (List.mem_cons_of_mem _ (List.mem_cons_of_mem _ (List.mem_cons_self ..))))) rfl, hs8.sl2⟩)); clear hK K; (try simp only [Act.put, List.setIfInBounds_toArray, List.set_cons_zero, List.set_cons_succ]))
          (refine wpAnyS_ready (rs := [7]) (by kernel_rfl) (by simp) ?_; refine AllS.consL rfl (fun K hK => ?_) AllS.nil)
          (go_simp; go_at_call 42; refine (hex_any _ yy _ hs8.sl0 (by have := Hy32.out; omega)).mono ?_; rintro e w' ⟨rfl, hk9⟩; go_wp2_with fail)
          have hs9 := (hs8.call0 hk9).tail
          (refine hK.out _ _ ?_ (fun hHeld => ?_); (focus ((try dsimp only); exact ⟨hs9.rcell (j := 2) (List.mem_cons_of_mem _ (List.mem_cons_of_mem _ (List.mem_cons_of_mem _ (List.mem_cons_self ..)))) rfl, hs9.sl1⟩)); clear hK K; (try simp only [Act.put, List.setIfInBounds_toArray, List.set_cons_zero, List.set_cons_succ]))
          (refine wpAnyS_takeL (i := 8) (v := ?_) rfl (by kernel_rfl) (by kernel_rfl) (by kernel_rfl) (by kernel_rfl) (by kernel_rfl) (by kernel_rfl) (fun _ _ _ h => h) (Or.inl ⟨by rfl, ?_⟩) hHeld ?_; rotate_left 1; (focus (intro w' hSw; (try dsimp only at hSw); go_simp; (try with_reducible rfl))); (try simp only [Act.put, List.setIfInBounds_toArray, List.set_cons_zero, List.set_cons_succ]))
          (refine wpAnyS_ready (rs := [9]) (by kernel_rfl) (by simp) ?_; refine AllS.consL rfl (fun K hK => ?_) AllS.nil)
          go_simp
          (refine hK.out _ _ ?_ (fun hHeld => ?_); (focus ((try dsimp only); exact ⟨(hs9.alloc _).rcell (j := 2) (List.mem_cons_of_mem _ (List.mem_cons_of_mem _ (List.mem_cons_of_mem _ (List.mem_cons_self ..)))) rfl, (hs9.alloc _).sl1⟩)); clear hK K; (try simp only [Act.put, List.setIfInBounds_toArray, List.set_cons_zero, List.set_cons_succ]))
          (refine wpAnyS_ready (rs := [10]) (by kernel_rfl) (by simp) ?_; refine AllS.consL rfl (fun K hK => ?_) AllS.nil)
          refine step_app rfl _ _ 74 rfl Tryz.elItem6 (by exact (hs9.alloc _).up2) rfl (by exact Sl.three _ _ _ _ _) (by intro u hu; simp at hu; rcases hu with rfl | rfl | rfl <;> rfl) (by omega) ?_
          intro v10 w10 hs10 _
          obtain ⟨vo, vc, rfl, _⟩ := id hs10.sl0
          (refine hK.out _ _ ?_ (fun hHeld => ?_); (focus ((try dsimp only); exact ⟨hs10.rcell (j := 2) (List.mem_cons_of_mem _ (List.mem_cons_of_mem _ (List.mem_cons_of_mem _ (List.mem_cons_self ..)))) rfl, hs10.sl2⟩)); clear hK K; (try simp only [Act.put, List.setIfInBounds_toArray, List.set_cons_zero, List.set_cons_succ]))
          (refine wpAnyS_seq (by rfl) (by kernel_rfl) ?_; simp only [List.drop_succ_cons, List.drop_zero])
          go_wp2_with ((with_reducible show wpList _ _ _ _ _ _); refine wpl_store1 rfl 74 _ _ rfl hs10.up3 (2) rfl (.slice vo (done.length + 1) vc) rfl rfl (by kernel_rfl) (by simp [OC]) rfl ?_; intro w11 hs11)
          have hs12 := hs11.up3.tail.swap.up2
          have hs13 : St w w11 [(⟨.slice (some ⟨gx, 0, none⟩) 1 1, 102, 3, 1, [.slice bo B.length bc, .int .i64 (p8 : Int), .bool b8]⟩ : Row), ⟨.slice vo (done.length + 1) vc, 104, 3, (done ++ [((m : Int), str x, str (hexL yy))]).length, itms (done ++ [((m : Int), str x, str (hexL yy))])⟩, (⟨.slice (some ⟨go, 0, none⟩) 1 1, 76, 8, 1, OC (.slice none 0 0) (.slice vo (done.length + 1) vc) (.slice none 0 0) ⟨2, [], done ++ [((m : Int), str x, str (hexL yy))], str [], [], 0, 0, str []⟩⟩ : Row), (⟨.slice (some ⟨gz, 0, none⟩) 1 1, 76, 8, 1, [.int .i64 (0), .slice none 0 0, .slice none 0 0, .string (str []), .slice none 0 0, .int .i64 (0), .int .i64 (0), .string (str [])]⟩ : Row)] [(⟨.slice bo B.length bc, 1, (B).length, bs (B)⟩ : Rd)] := by
            have h9 := hs12
            simpa [itms, itmRow, OC] using h9
          subst hd8
          case roundEnd =>
            refine ⟨⟨i + 1, p8, done ++ [((m : Int), str x, str (hexL yy))], b8, _, by go_num, by omega, hp8, ?_, ?_, hs13⟩, by simp [intOf]; omega⟩
            · show _ = _
              rw [HE.out, show n - i = (n - (i + 1)) + 1 by omega, HS.out]
              simp
            · have e1 := HL0.out
              have e2 := LT.out
              simp only [List.length_drop] at e2
              refine ⟨fun h => ?_, by simp; omega⟩
              have := e2 h
              simp
              omega
    have qk2 : (kk == 2) = false := by simpa using k2
    by_cases k3 : kk = 3
    · subst k3
      have HT := Mx.hid (take_r 32 hs5 hbl (by omega) (by omega))
      rw [HB1.out] at HT
      have hA0 : Mx.hs (r, false) = (str (hexL (tk 32 (r, false)).1), (tk 32 (r, false)).2) := rfl
      have hy32 : (tk 32 (r, false)).1.length ≤ 32 := by unfold tk; split <;> simp; omega
      generalize tk 32 (r, false) = t0 at *
      obtain ⟨yy, s1⟩ := t0
      have HA0 := Mx.hid hA0
      have Hy := Mx.hid hy32
      have H2 : Hid (∀ wx q b R, q ≤ B.length → (B.drop q, b) = s1 → St w wx ((⟨.slice (some ⟨gx, 0, none⟩) 1 1, 102, 3, 1, [.slice bo B.length bc, .int .i64 (q : Int), .bool b]⟩ : Row) :: R) [(⟨.slice bo B.length bc, 1, (B).length, bs (B)⟩ : Rd)] → Calls Tryz.prog 53 #[.pointer (some ⟨gx, 0, none⟩)] wx (RNumPost w R [] gx (.slice bo B.length bc) B (.int .i64 ((on s1).1 : Int)) (on s1).2)) := fun wx q b R h hd hs => by have := byte_r hs h (by omega); rwa [hd] at this
      have h256 := on_256 s1
      generalize hA1 : on s1 = t1 at *
      obtain ⟨n, s2⟩ := t1
      have HA1 := Mx.hid hA1
      simp only [] at H2 HT h256
      clear hA0 hA1 hy32
      go_wp2_with (first | (go_at_call 51; refine HT.out.mono ?_; rintro e w5 ⟨vy, p5, b5, rfl, hs6, hp5, hd5⟩; obtain ⟨yo, yc, rfl, _⟩ := id hs6.sl0) | (go_at_call 42; refine (hex_any _ yy _ hs6.sl0 (by have := Hy.out; omega)).mono ?_; rintro e w6 ⟨rfl, hk6⟩; have hs7 := (hs6.call0 hk6).tail.swap) | ((with_reducible show wpList _ _ _ _ _ _); refine wpl_store1 rfl 9 _ _ rfl hs7 (3) rfl (.string (str (hexL yy))) rfl rfl (by kernel_rfl) (by simp) rfl ?_; intro w8 hs8) | (go_at_call 53; refine (H2.out _ _ _ _ hp5 hd5 hs8.swap).mono ?_; rintro e w9 ⟨p9, b9, rfl, hs9, hp9, hd9⟩; have HD9 := Mx.hid hd9))
      have hs10 : St w w9 [(⟨.slice (some ⟨gx, 0, none⟩) 1 1, 102, 3, 1, [.slice bo B.length bc, .int .i64 (p9 : Int), .bool b9]⟩ : Row), ⟨.slice none 0 0, 9, 1, 0, []⟩, (⟨.slice (some ⟨go, 0, none⟩) 1 1, 76, 8, 1, OC (.slice none 0 0) (.slice none 0 0) (.slice none 0 0) ⟨3, [], [], str (hexL yy), [], 0, 0, str []⟩⟩ : Row), (⟨.slice (some ⟨gz, 0, none⟩) 1 1, 76, 8, 1, [.int .i64 (0), .slice none 0 0, .slice none 0 0, .string (str []), .slice none 0 0, .int .i64 (0), .int .i64 (0), .string (str [])]⟩ : Row)] [(⟨.slice bo B.length bc, 1, (B).length, bs (B)⟩ : Rd)] := ((hs9.swap.cast rfl (by simp [OC])).swap.addNil 9 1).swap
      clear hs9 hs8 hs7 hs6 hs5 hd9 hd5 hp5
      generalize str (hexL yy) = tr at *
      go_loopw [11] (fun y wr => ∃ (i p' : Nat) (done : List ByteArray) (sh : Bool) (iv : Value), y = .int .i64 i ∧ i ≤ n ∧ done.length = i ∧ p' ≤ B.length ∧ Hid (rdPars n s2 = (done ++ (rdPars (n - i) (B.drop p', sh)).1, (rdPars (n - i) (B.drop p', sh)).2)) ∧ St w wr [(⟨.slice (some ⟨gx, 0, none⟩) 1 1, 102, 3, 1, [.slice bo B.length bc, .int .i64 (p' : Int), .bool sh]⟩ : Row), ⟨iv, 9, 1, done.length, ss done⟩, (⟨.slice (some ⟨go, 0, none⟩) 1 1, 76, 8, 1, OC (.slice none 0 0) (.slice none 0 0) iv ⟨3, [], [], tr, done, 0, 0, str []⟩⟩ : Row), (⟨.slice (some ⟨gz, 0, none⟩) 1 1, 76, 8, 1, [.int .i64 (0), .slice none 0 0, .slice none 0 0, .string (str []), .slice none 0 0, .int .i64 (0), .int .i64 (0), .string (str [])]⟩ : Row)] [(⟨.slice bo B.length bc, 1, (B).length, bs (B)⟩ : Rd)]) (fun y _ => n - (intOf y).toNat)
      case atStart => exact ⟨0, p9, [], b9, _, rfl, by omega, rfl, hp9, (by show _ = _; rw [HD9.out]; simp), hs10⟩
      case round =>
        obtain ⟨i, p', done, sh, iv, rfl, hi, hd, hp', HE, hs⟩ := hrel
        have y0 : wr.cell? ⟨gx, 2, none⟩ = some (.bool sh) := hs.cell (j := 2) rfl
        clear hs10
        by_cases hstop : sh = true ∨ i = n
        · have HE2 := Mx.hid (show rdPars n s2 = (done, (B.drop p', sh)) by rw [HE.out, rdPars_stop (hstop.imp id (by omega))]; simp)
          have N1 := Mx.hid (num_r hs hp' (by omega))
          generalize hq1 : nmR (B.drop p', sh) = q1 at *
          obtain ⟨st, s4⟩ := q1
          have N2 : Hid (∀ wx q b R, q ≤ B.length → (B.drop q, b) = s4 → St w wx ((⟨.slice (some ⟨gx, 0, none⟩) 1 1, 102, 3, 1, [.slice bo B.length bc, .int .i64 (q : Int), .bool b]⟩ : Row) :: R) [(⟨.slice bo B.length bc, 1, (B).length, bs (B)⟩ : Rd)] → Calls Tryz.prog 52 #[.pointer (some ⟨gx, 0, none⟩)] wx (RNumPost w R [] gx (.slice bo B.length bc) B (.int .i64 ((nmR s4).1 : Int)) (nmR s4).2)) := fun wx q b R h hd hs => by have := num_r hs h (by omega); rwa [hd] at this
          generalize hq2 : nmR s4 = q2 at *
          obtain ⟨au, s5⟩ := q2
          have N3 : Hid (∀ wx q b R, q ≤ B.length → (B.drop q, b) = s5 → St w wx ((⟨.slice (some ⟨gx, 0, none⟩) 1 1, 102, 3, 1, [.slice bo B.length bc, .int .i64 (q : Int), .bool b]⟩ : Row) :: R) [(⟨.slice bo B.length bc, 1, (B).length, bs (B)⟩ : Rd)] → Calls Tryz.prog 52 #[.pointer (some ⟨gx, 0, none⟩)] wx (RNumPost w R [] gx (.slice bo B.length bc) B (.int .i64 ((nmR s5).1 : Int)) (nmR s5).2)) := fun wx q b R h hd hs => by have := num_r hs h (by omega); rwa [hd] at this
          have hkm := nmR_max s5
          generalize hq3 : nmR s5 = q3 at *
          obtain ⟨k, s6⟩ := q3
          have N4 : Hid (∀ wx q b R, q ≤ B.length → (B.drop q, b) = s6 → St w wx ((⟨.slice (some ⟨gx, 0, none⟩) 1 1, 102, 3, 1, [.slice bo B.length bc, .int .i64 (q : Int), .bool b]⟩ : Row) :: R) [(⟨.slice bo B.length bc, 1, (B).length, bs (B)⟩ : Rd)] → Calls Tryz.prog 51 #[.pointer (some ⟨gx, 0, none⟩), .int .i64 (k : Int)] wx (RTakePost w R [] gx (.slice bo B.length bc) B (tk k s6))) := fun wx q b R h hd hs => by have := take_r k hs h (by omega) hkm; rwa [hd] at this
          generalize hq4 : tk k s6 = q4 at *
          obtain ⟨m, s7⟩ := q4
          have HF := Mx.hid (readR_three HA0.out HA1.out HE2.out hq1 hq2 hq3 hq4)
          obtain ⟨io, ic, rfl, _⟩ := id hs.sl1
          simp only [] at N1 N2 N3 N4
          clear hq1 hq2 hq3 hq4 hkm HE2 HE
          have hgo : Hid (∀ wx p q, St w wx p q → True) := fun _ _ _ _ => trivial
          by_cases hin : i = n
          · have q1 : decide ((i : Int) < (n : Int)) = false := decide_eq_false (by omega)
            have q2 : decide (i < n) = false := decide_eq_false (by omega)
            clear hin hstop hi hd
            go_wp2_with (first | ((with_reducible show wpList _ _ _ _ _ _); refine wpl_want rfl ?_) | (go_at_call 52; refine (N3.out _ _ _ _ hp12 hd12 hs14).mono ?_; rintro e w15 ⟨p15, b15, rfl, hs15, hp15, hd15⟩) | (go_at_call 52; refine (N2.out _ _ _ _ hp11 hd11 hs11).mono ?_; rintro e w12 ⟨p12, b12, rfl, hs12, hp12, hd12⟩) | (go_at_call 52; refine N1.out.mono ?_; rintro e w11 ⟨p11, b11, rfl, hs11, hp11, hd11⟩) | (go_at_call 51; refine (N4.out _ _ _ _ hp15 hd15 hs15).mono ?_; rintro e w16 ⟨vx, p16, b16, rfl, hs16, hp16, hd16⟩; obtain ⟨xo, xc, rfl, _⟩ := id hs16.sl0) | ((with_reducible show wpList _ _ _ _ _ _); refine wpl_store1 rfl 9 _ _ rfl hs16.up2 (7) rfl (.string (str m)) rfl rfl (by kernel_rfl) (by simp [OC]) rfl ?_; intro w17 hs17) | (((with_reducible show wpList _ _ _ _ _ _); refine wpl_store1 rfl 3 _ _ rfl hs13 (6) rfl (.int .i64 (au : Int)) rfl rfl (by kernel_rfl) (by simp [OC]) rfl ?_; intro w14 hs14); replace hs14 := hs14.swap) | ((with_reducible show wpList _ _ _ _ _ _); refine wpl_store1 rfl 3 _ _ rfl hs12.up2 (5) rfl (.int .i64 (st : Int)) rfl rfl (by kernel_rfl) (by simp [OC]) rfl ?_; intro w13 hs13) | ((with_reducible show wpList _ _ _ _ _ _); refine wpl_b2s rfl 51 9 5 _ rfl Tryz.underlying51 Tryz.underlying5 Tryz.underlying9 (by exact hs16.sl0) ?_))
            go_meet
            have hs18 : St w w17 [(⟨.slice (some ⟨go, 0, none⟩) 1 1, 76, 8, 1, OC (.slice none 0 0) (.slice none 0 0) (.slice io done.length ic) ⟨3, [], [], tr, done, (st : Int), (au : Int), str m⟩⟩ : Row), (⟨.slice (some ⟨gx, 0, none⟩) 1 1, 102, 3, 1, [.slice bo B.length bc, .int .i64 (p16 : Int), .bool b16]⟩ : Row), ⟨.slice io done.length ic, 9, 1, done.length, ss done⟩, (⟨.slice (some ⟨gz, 0, none⟩) 1 1, 76, 8, 1, [.int .i64 (0), .slice none 0 0, .slice none 0 0, .string (str []), .slice none 0 0, .int .i64 (0), .int .i64 (0), .string (str [])]⟩ : Row)] [(⟨.slice bo B.length bc, 1, (B).length, bs (B)⟩ : Rd)] := (hs17.cast rfl (by simp [OC])).swap.tail
            exact ⟨_, _, _, p16, b16, _, Mx.hid (by rw [HF.out, ← hd16]), ((hs18.up2.addNil 104 3).addNil 5 1).up4.up5.up5⟩
          · obtain rfl : sh = true := by rcases hstop with h | h; exact h; exact absurd h hin
            have hlt : i < n := by omega
            clear hin hstop hd
            go_wp2_with (first | ((with_reducible show wpList _ _ _ _ _ _); refine wpl_want rfl ?_) | (go_at_call 52; refine (N3.out _ _ _ _ hp12 hd12 hs14).mono ?_; rintro e w15 ⟨p15, b15, rfl, hs15, hp15, hd15⟩) | (go_at_call 52; refine (N2.out _ _ _ _ hp11 hd11 hs11).mono ?_; rintro e w12 ⟨p12, b12, rfl, hs12, hp12, hd12⟩) | (go_at_call 52; refine N1.out.mono ?_; rintro e w11 ⟨p11, b11, rfl, hs11, hp11, hd11⟩) | (go_at_call 51; refine (N4.out _ _ _ _ hp15 hd15 hs15).mono ?_; rintro e w16 ⟨vx, p16, b16, rfl, hs16, hp16, hd16⟩; obtain ⟨xo, xc, rfl, _⟩ := id hs16.sl0) | ((with_reducible show wpList _ _ _ _ _ _); refine wpl_store1 rfl 9 _ _ rfl hs16.up2 (7) rfl (.string (str m)) rfl rfl (by kernel_rfl) (by simp [OC]) rfl ?_; intro w17 hs17) | (((with_reducible show wpList _ _ _ _ _ _); refine wpl_store1 rfl 3 _ _ rfl hs13 (6) rfl (.int .i64 (au : Int)) rfl rfl (by kernel_rfl) (by simp [OC]) rfl ?_; intro w14 hs14); replace hs14 := hs14.swap) | ((with_reducible show wpList _ _ _ _ _ _); refine wpl_store1 rfl 3 _ _ rfl hs12.up2 (5) rfl (.int .i64 (st : Int)) rfl rfl (by kernel_rfl) (by simp [OC]) rfl ?_; intro w13 hs13) | ((with_reducible show wpList _ _ _ _ _ _); refine wpl_b2s rfl 51 9 5 _ rfl Tryz.underlying51 Tryz.underlying5 Tryz.underlying9 (by exact hs16.sl0) ?_))
            go_meet
            have hs18 : St w w17 [(⟨.slice (some ⟨go, 0, none⟩) 1 1, 76, 8, 1, OC (.slice none 0 0) (.slice none 0 0) (.slice io done.length ic) ⟨3, [], [], tr, done, (st : Int), (au : Int), str m⟩⟩ : Row), (⟨.slice (some ⟨gx, 0, none⟩) 1 1, 102, 3, 1, [.slice bo B.length bc, .int .i64 (p16 : Int), .bool b16]⟩ : Row), ⟨.slice io done.length ic, 9, 1, done.length, ss done⟩, (⟨.slice (some ⟨gz, 0, none⟩) 1 1, 76, 8, 1, [.int .i64 (0), .slice none 0 0, .slice none 0 0, .string (str []), .slice none 0 0, .int .i64 (0), .int .i64 (0), .string (str [])]⟩ : Row)] [(⟨.slice bo B.length bc, 1, (B).length, bs (B)⟩ : Rd)] := (hs17.cast rfl (by simp [OC])).swap.tail
            exact ⟨_, _, _, p16, b16, _, Mx.hid (by rw [HF.out, ← hd16]), ((hs18.up2.addNil 104 3).addNil 5 1).up4.up5.up5⟩
        · obtain rfl : sh = false := by cases sh with
            | false => rfl
            | true => exact absurd (.inl rfl) hstop
          have hlt : i < n := by rcases Nat.lt_or_ge i n with h | h; exact h; exact absurd (.inr (by omega)) hstop
          have H4 := Mx.hid (fun wx (h : St w wx [(⟨.slice (some ⟨gx, 0, none⟩) 1 1, 102, 3, 1, [.slice bo B.length bc, .int .i64 (p' : Int), .bool false]⟩ : Row), ⟨iv, 9, 1, done.length, ss done⟩, (⟨.slice (some ⟨go, 0, none⟩) 1 1, 76, 8, 1, OC (.slice none 0 0) (.slice none 0 0) iv ⟨3, [], [], tr, done, 0, 0, str []⟩⟩ : Row), (⟨.slice (some ⟨gz, 0, none⟩) 1 1, 76, 8, 1, [.int .i64 (0), .slice none 0 0, .slice none 0 0, .string (str []), .slice none 0 0, .int .i64 (0), .int .i64 (0), .string (str [])]⟩ : Row)] [(⟨.slice bo B.length bc, 1, (B).length, bs (B)⟩ : Rd)]) => take_r 32 h hp' (by omega) (by omega))
          have hA4 : Mx.hs (B.drop p', false) = (str (hexL (tk 32 (B.drop p', false)).1), (tk 32 (B.drop p', false)).2) := rfl
          have hy32 : (tk 32 (B.drop p', false)).1.length ≤ 32 := by unfold tk; split <;> simp; omega
          generalize tk 32 (B.drop p', false) = t4 at *
          obtain ⟨yy, s4⟩ := t4
          have HS := Mx.hid (rdPars_step (n := n - (i + 1)) hA4)
          simp only [] at H4 hy32
          have Hy32 := Mx.hid hy32
          have Hd := Mx.hid hd
          have y2 := hs.rcell (j := 4) (List.mem_cons_of_mem _ (List.mem_cons_of_mem _ (List.mem_cons_self ..))) rfl
          clear hA4 hy32 hstop
          go_wp2_with ((with_reducible show wpList _ _ _ _ _ _); refine wpl_want rfl ?_)
          (refine wp_region_S (7) (fun W' => W'.cell? ⟨go, 4, none⟩ = some iv) (by kernel_rfl) ?_ (fun hHeld => ?_); (focus ((try dsimp only); exact hs.drew.rcell (j := 4) (List.mem_cons_of_mem _ (List.mem_cons_of_mem _ (List.mem_cons_self ..))) rfl)))
          (refine wpAnyS_takeL (i := 0) (v := ?_) rfl (by kernel_rfl) (by kernel_rfl) (by kernel_rfl) (by kernel_rfl) (by kernel_rfl) (by kernel_rfl) (fun _ _ _ h => h) (Or.inl ⟨by rfl, ?_⟩) hHeld ?_; rotate_left 1; (focus (intro w' hSw; (try dsimp only at hSw); go_simp; (try with_reducible rfl))); (try simp only [Act.put, List.setIfInBounds_toArray, List.set_cons_zero, List.set_cons_succ]))
          (refine wpAnyS_takeL (i := 1) (v := ?_) rfl (by kernel_rfl) (by kernel_rfl) (by kernel_rfl) (by kernel_rfl) (by kernel_rfl) (by kernel_rfl) (fun _ _ _ h => h) (Or.inl ⟨by rfl, ?_⟩) hHeld ?_; rotate_left 1; (focus (intro w' hSw; (try dsimp only at hSw); go_simp; (try with_reducible rfl))); (try simp only [Act.put, List.setIfInBounds_toArray, List.set_cons_zero, List.set_cons_succ]))
          (refine wpAnyS_takeL (i := 2) (v := ?_) rfl (by kernel_rfl) (by kernel_rfl) (by kernel_rfl) (by kernel_rfl) (by kernel_rfl) (by kernel_rfl) (fun _ _ _ h => h) (Or.inl ⟨by rfl, ?_⟩) hHeld ?_; rotate_left 1; (focus (intro w' hSw; (try dsimp only at hSw); go_simp; (try with_reducible rfl))); (try simp only [Act.put, List.setIfInBounds_toArray, List.set_cons_zero, List.set_cons_succ]))
          (refine wpAnyS_ready (rs := [3]) (by kernel_rfl) (by simp) ?_; refine AllS.consL rfl (fun K hK => ?_) AllS.nil)
          (go_simp; go_at_call 51; refine ((H4.out _ hs.drew)).mono ?_; rintro e w' ⟨vy, p8, b8, rfl, hs8, hp8, hd8⟩; go_wp2_with fail)
          obtain ⟨yo, yc, rfl, _⟩ := id hs8.sl0
          (refine hK.out _ _ ?_ (fun hHeld => ?_); (focus ((try dsimp only); exact hs8.rcell (j := 4) (List.mem_cons_of_mem _ (List.mem_cons_of_mem _ (List.mem_cons_of_mem _ (List.mem_cons_self ..)))) rfl)); clear hK K; (try simp only [Act.put, List.setIfInBounds_toArray, List.set_cons_zero, List.set_cons_succ]))
          (refine wpAnyS_ready (rs := [4]) (by kernel_rfl) (by simp) ?_; refine AllS.consL rfl (fun K hK => ?_) AllS.nil)
          (go_simp; go_at_call 42; refine (hex_any _ yy _ hs8.sl0 (by have := Hy32.out; omega)).mono ?_; rintro e w' ⟨rfl, hk9⟩; go_wp2_with fail)
          have hs9 := (hs8.call0 hk9).tail
          (refine hK.out _ _ ?_ (fun hHeld => ?_); (focus ((try dsimp only); exact hs9.rcell (j := 4) (List.mem_cons_of_mem _ (List.mem_cons_of_mem _ (List.mem_cons_self ..))) rfl)); clear hK K; (try simp only [Act.put, List.setIfInBounds_toArray, List.set_cons_zero, List.set_cons_succ]))
          (refine wpAnyS_ready (rs := [5]) (by kernel_rfl) (by simp) ?_; refine AllS.consL rfl (fun K hK => ?_) AllS.nil)
          go_simp
          (refine hK.out _ _ ?_ (fun hHeld => ?_); (focus ((try dsimp only); exact (hs9.alloc _).rcell (j := 4) (List.mem_cons_of_mem _ (List.mem_cons_of_mem _ (List.mem_cons_self ..))) rfl)); clear hK K; (try simp only [Act.put, List.setIfInBounds_toArray, List.set_cons_zero, List.set_cons_succ]))
          (refine wpAnyS_ready (rs := [6]) (by kernel_rfl) (by simp) ?_; refine AllS.consL rfl (fun K hK => ?_) AllS.nil)
          refine step_app rfl _ _ 23 rfl Tryz.elStr (by exact (hs9.alloc _).swap) rfl (by exact Sl.one _ _ _) (by intro u hu; simp at hu; subst hu; rfl) (by omega) ?_
          intro v10 w10 hs10 _
          obtain ⟨vo, vc, rfl, _⟩ := id hs10.sl0
          (refine hK.out _ _ ?_ (fun hHeld => ?_); (focus ((try dsimp only); exact hs10.rcell (j := 4) (List.mem_cons_of_mem _ (List.mem_cons_of_mem _ (List.mem_cons_self ..))) rfl)); clear hK K; (try simp only [Act.put, List.setIfInBounds_toArray, List.set_cons_zero, List.set_cons_succ]))
          (refine wpAnyS_seq (by rfl) (by kernel_rfl) ?_; simp only [List.drop_succ_cons, List.drop_zero])
          go_wp2_with ((with_reducible show wpList _ _ _ _ _ _); refine wpl_store1 rfl 23 _ _ rfl hs10.up2 (4) rfl (.slice vo (done.length + 1) vc) rfl rfl (by kernel_rfl) (by simp [OC]) rfl ?_; intro w11 hs11)
          have hs12 := hs11.swap.up2
          have hs13 : St w w11 [(⟨.slice (some ⟨gx, 0, none⟩) 1 1, 102, 3, 1, [.slice bo B.length bc, .int .i64 (p8 : Int), .bool b8]⟩ : Row), ⟨.slice vo (done.length + 1) vc, 9, 1, (done ++ [str (hexL yy)]).length, ss (done ++ [str (hexL yy)])⟩, (⟨.slice (some ⟨go, 0, none⟩) 1 1, 76, 8, 1, OC (.slice none 0 0) (.slice none 0 0) (.slice vo (done.length + 1) vc) ⟨3, [], [], tr, done ++ [str (hexL yy)], 0, 0, str []⟩⟩ : Row), (⟨.slice (some ⟨gz, 0, none⟩) 1 1, 76, 8, 1, [.int .i64 (0), .slice none 0 0, .slice none 0 0, .string (str []), .slice none 0 0, .int .i64 (0), .int .i64 (0), .string (str [])]⟩ : Row)] [(⟨.slice bo B.length bc, 1, (B).length, bs (B)⟩ : Rd)] := by
            have h9 := hs12
            simpa [ss, OC] using h9
          case roundEnd =>
            refine ⟨⟨i + 1, p8, done ++ [str (hexL yy)], b8, _, by go_num, by omega, by have := Hd.out; simp; omega, hp8, ?_, hs13⟩, by simp [intOf]; omega⟩
            show _ = _
            rw [HE.out, show n - i = (n - (i + 1)) + 1 by omega, HS.out, ← hd8]
            simp
    have qk3 : (kk == 3) = false := by simpa using k3
    have HR := Mx.hid (show readR kk r = (⟨kk, [], [], str [], [], 0, 0, str []⟩, false) by unfold readR; rw [if_neg k1, if_neg k2, if_neg k3])
    clear k1 k2 k3
    go_wp2_with fail
    go_meet
    exact ⟨_, _, _, 1, false, _, HR, (((hs5.addNil 9 1).addNil 104 3).addNil 5 1).up3.up5.up5⟩
  case rest =>
    obtain ⟨dv, iv, pv, p', sh, o, HR, hs⟩ := hcut
    have HQ2 := Mx.hid (HQ.out o sh HR.out)
    have hoz : OZ o ∧ o.data.length ≤ 1000000000000 ∧ o.items.length ≤ 1000000000000 := by have := HOZ.out; rw [HR.out] at this; exact this
    have HVW := Mx.hid (fun (wx : World) (R : List Row) (Q : List Rd) (h : St w wx R Q) => h.old HV.out)
    clear hs4 hs3 hs1 hc1 hc3 hk1 hs0 HR HOZ HQ HV HC x0 hw64 hww hk HB1 HRL HB
    generalize w3.heap.size = go at *
    generalize w.heap.size = gz at *
    have hD := hs.sl (r := ⟨dv, 5, 1, o.data.length, bs o.data⟩) (by simp)
    have hI := hs.sl (r := ⟨iv, 104, 3, o.items.length, itms o.items⟩) (by simp)
    have hP := hs.sl (r := ⟨pv, 9, 1, o.parents.length, ss o.parents⟩) (by simp)
    have HEN := Mx.hid (rencode_any dv iv pv o wc ⟨hD, hI, hP⟩ hoz.1 hoz.2.1 hoz.2.2)
    simp only [] at hD hI hP
    obtain ⟨okind, odata, oitems, otree, oparents, ostamp, oauthor, omsg⟩ := o
    obtain ⟨da, dc, rfl, _⟩ := id hD
    obtain ⟨ia, ic, rfl, _⟩ := id hI
    obtain ⟨pa, pc, rfl, _⟩ := id hP
    unfold EncPost at HEN
    have hs : St w wc ((⟨.slice (some ⟨go, 0, none⟩) 1 1, 76, 8, 1, [.int .i64 okind, .slice da odata.length dc, .slice ia oitems.length ic, .string otree, .slice pa oparents.length pc, .int .i64 ostamp, .int .i64 oauthor, .string omsg]⟩ : Row) :: (⟨.slice (some ⟨gz, 0, none⟩) 1 1, 76, 8, 1, [.int .i64 (0), .slice none 0 0, .slice none 0 0, .string (str []), .slice none 0 0, .int .i64 (0), .int .i64 (0), .string (str [])]⟩ : Row) :: (⟨.slice (some ⟨gx, 0, none⟩) 1 1, 102, 3, 1, [.slice bo B.length bc, .int .i64 (p' : Int), .bool sh]⟩ : Row) :: obR6 (.slice da odata.length dc) (.slice ia oitems.length ic) (.slice pa oparents.length pc) ⟨okind, odata, oitems, otree, oparents, ostamp, oauthor, omsg⟩) [(⟨.slice bo B.length bc, 1, (B).length, bs (B)⟩ : Rd)] := hs
    clear hD hI hP hoz
    cases hm : mayB ⟨okind, odata, oitems, otree, oparents, ostamp, oauthor, omsg⟩ with
    | false =>
      rw [hm] at HEN HQ2
      have HF := Mx.hid (show decO B = (noOb, 4) by rw [HQ2.out, if_neg (by simp)])
      clear HQ2 hm
      cases sh with
      | true =>
        go_wp2_with (first | ((with_reducible show wpList _ _ _ _ _ _); refine wpl_want rfl ?_) | ((with_reducible show wpList _ _ _ _ _ _); refine wpl_loadA rfl 76 _ rfl Tryz.aObj6 (go) (0) rfl ([.int .i64 okind, .slice da odata.length dc, .slice ia oitems.length ic, .string otree, .slice pa oparents.length pc, .int .i64 ostamp, .int .i64 oauthor, .string omsg]) rfl (fun i u hh => by rw [Nat.zero_add]; exact hs.rcell (List.mem_cons_self ..) hh) ?_) | (go_at_call 54; refine HEN.out.mono ?_; rintro e w6 ⟨rfl, hk6⟩; have hs6 := hs.call0 hk6; have y2 := hs6.rcell (j := 2) (List.mem_cons_of_mem _ (List.mem_cons_of_mem _ (List.mem_cons_self ..))) rfl) | ((with_reducible show wpList _ _ _ _ _ _); refine wpl_storeA rfl 76 _ _ rfl Tryz.aObj6 hs6.swap (0) rfl ([.int .i64 (0), .slice none 0 0, .slice none 0 0, .string (str []), .slice none 0 0, .int .i64 (0), .int .i64 (0), .string (str [])]) rfl (by rfl) (by simp) (by intro u hu; simp at hu; rcases hu with rfl | rfl | rfl | rfl | rfl | rfl | rfl | rfl <;> rfl) ?_; intro w9 hs9))
        replace hs9 := hs9.cast rfl (show _ = [.int .i64 (0), .slice none 0 0, .slice none 0 0, .string (str []), .slice none 0 0, .int .i64 (0), .int .i64 (0), .string (str [])] by simp)
        have hcw : ∀ i u, ([.int .i64 (0), .slice none 0 0, .slice none 0 0, .string (str []), .slice none 0 0, .int .i64 (0), .int .i64 (0), .string (str [])])[i]? = some u → w9.cell? ⟨gz, i, none⟩ = some u := fun i u h => hs9.rcell (List.mem_cons_self ..) h
        refine bodyPost_ret (v := .tuple #[.agg ([.int .i64 (0), .slice none 0 0, .slice none 0 0, .string (str []), .slice none 0 0, .int .i64 (0), .int .i64 (0), .string (str [])]).toArray, .int .i64 4]) (results_cellA2 Tryz.results33 _ Tryz.aObj6 (g := gz) ([.int .i64 (0), .slice none 0 0, .slice none 0 0, .string (str []), .slice none 0 0, .int .i64 (0), .int .i64 (0), .string (str [])]) ?_ rfl hcw ?_) ?_ ⟨_, _, _, by rw [HF.out]; rfl, by rw [HF.out]; exact ((hs9.bare.addNil _ _).addNil _ _).addNil _ _⟩
        · first | (simp; done) | simp [Act.put]
        · first | (simp; done) | simp [Act.put]
        · first | (simp; done) | simp [Act.put]
      | false =>
        go_wp2_with (first | ((with_reducible show wpList _ _ _ _ _ _); refine wpl_want rfl ?_) | ((with_reducible show wpList _ _ _ _ _ _); refine wpl_loadA rfl 76 _ rfl Tryz.aObj6 (go) (0) rfl ([.int .i64 okind, .slice da odata.length dc, .slice ia oitems.length ic, .string otree, .slice pa oparents.length pc, .int .i64 ostamp, .int .i64 oauthor, .string omsg]) rfl (fun i u hh => by rw [Nat.zero_add]; exact hs.rcell (List.mem_cons_self ..) hh) ?_) | (go_at_call 54; refine HEN.out.mono ?_; rintro e w6 ⟨rfl, hk6⟩; have hs6 := hs.call0 hk6; have y2 := hs6.rcell (j := 2) (List.mem_cons_of_mem _ (List.mem_cons_of_mem _ (List.mem_cons_self ..))) rfl) | ((with_reducible show wpList _ _ _ _ _ _); refine wpl_storeA rfl 76 _ _ rfl Tryz.aObj6 hs6.swap (0) rfl ([.int .i64 (0), .slice none 0 0, .slice none 0 0, .string (str []), .slice none 0 0, .int .i64 (0), .int .i64 (0), .string (str [])]) rfl (by rfl) (by simp) (by intro u hu; simp at hu; rcases hu with rfl | rfl | rfl | rfl | rfl | rfl | rfl | rfl <;> rfl) ?_; intro w9 hs9))
        replace hs9 := hs9.cast rfl (show _ = [.int .i64 (0), .slice none 0 0, .slice none 0 0, .string (str []), .slice none 0 0, .int .i64 (0), .int .i64 (0), .string (str [])] by simp)
        have hcw : ∀ i u, ([.int .i64 (0), .slice none 0 0, .slice none 0 0, .string (str []), .slice none 0 0, .int .i64 (0), .int .i64 (0), .string (str [])])[i]? = some u → w9.cell? ⟨gz, i, none⟩ = some u := fun i u h => hs9.rcell (List.mem_cons_self ..) h
        refine bodyPost_ret (v := .tuple #[.agg ([.int .i64 (0), .slice none 0 0, .slice none 0 0, .string (str []), .slice none 0 0, .int .i64 (0), .int .i64 (0), .string (str [])]).toArray, .int .i64 4]) (results_cellA2 Tryz.results33 _ Tryz.aObj6 (g := gz) ([.int .i64 (0), .slice none 0 0, .slice none 0 0, .string (str []), .slice none 0 0, .int .i64 (0), .int .i64 (0), .string (str [])]) ?_ rfl hcw ?_) ?_ ⟨_, _, _, by rw [HF.out]; rfl, by rw [HF.out]; exact ((hs9.bare.addNil _ _).addNil _ _).addNil _ _⟩
        · first | (simp; done) | simp [Act.put]
        · first | (simp; done) | simp [Act.put]
        · first | (simp; done) | simp [Act.put]
    | true =>
      rw [hm] at HEN HQ2
      cases sh with
      | true =>
        have HF := Mx.hid (show decO B = (noOb, 4) by rw [HQ2.out, if_neg (by simp)])
        clear HQ2 hm
        generalize hEL : encL ⟨okind, odata, oitems, otree, oparents, ostamp, oauthor, omsg⟩ = EL at *
        have HEL := Mx.hid hEL
        clear hEL
        go_wp2_with (first | ((with_reducible show wpList _ _ _ _ _ _); refine wpl_want rfl ?_) | ((with_reducible show wpList _ _ _ _ _ _); refine wpl_loadA rfl 76 _ rfl Tryz.aObj6 (go) (0) rfl ([.int .i64 okind, .slice da odata.length dc, .slice ia oitems.length ic, .string otree, .slice pa oparents.length pc, .int .i64 ostamp, .int .i64 oauthor, .string omsg]) rfl (fun i u hh => by rw [Nat.zero_add]; exact hs.rcell (List.mem_cons_self ..) hh) ?_) | (go_at_call 54; refine HEN.out.mono ?_; rintro e w6 ⟨xv, rfl, hk6⟩; obtain ⟨xa, xb, rfl, _⟩ := id hk6.sl0; have hs6 := (hs.call1 hk6).swap; have y2 := hs6.rcell (j := 2) (List.mem_cons_of_mem _ (List.mem_cons_of_mem _ (List.mem_cons_of_mem _ (List.mem_cons_self ..)))) rfl) | ((with_reducible show wpList _ _ _ _ _ _); refine wpl_storeA rfl 76 _ _ rfl Tryz.aObj6 hs6.up2 (0) rfl ([.int .i64 (0), .slice none 0 0, .slice none 0 0, .string (str []), .slice none 0 0, .int .i64 (0), .int .i64 (0), .string (str [])]) rfl (by rfl) (by simp) (by intro u hu; simp at hu; rcases hu with rfl | rfl | rfl | rfl | rfl | rfl | rfl | rfl <;> rfl) ?_; intro w9 hs9))
        replace hs9 := hs9.cast rfl (show _ = [.int .i64 (0), .slice none 0 0, .slice none 0 0, .string (str []), .slice none 0 0, .int .i64 (0), .int .i64 (0), .string (str [])] by simp)
        have hcw : ∀ i u, ([.int .i64 (0), .slice none 0 0, .slice none 0 0, .string (str []), .slice none 0 0, .int .i64 (0), .int .i64 (0), .string (str [])])[i]? = some u → w9.cell? ⟨gz, i, none⟩ = some u := fun i u h => hs9.rcell (List.mem_cons_self ..) h
        refine bodyPost_ret (v := .tuple #[.agg ([.int .i64 (0), .slice none 0 0, .slice none 0 0, .string (str []), .slice none 0 0, .int .i64 (0), .int .i64 (0), .string (str [])]).toArray, .int .i64 4]) (results_cellA2 Tryz.results33 _ Tryz.aObj6 (g := gz) ([.int .i64 (0), .slice none 0 0, .slice none 0 0, .string (str []), .slice none 0 0, .int .i64 (0), .int .i64 (0), .string (str [])]) ?_ rfl hcw ?_) ?_ ⟨_, _, _, by rw [HF.out]; rfl, by rw [HF.out]; exact ((hs9.bare.addNil _ _).addNil _ _).addNil _ _⟩
        · first | (simp; done) | simp [Act.put]
        · first | (simp; done) | simp [Act.put]
        · first | (simp; done) | simp [Act.put]
      | false =>
        by_cases hb : encL ⟨okind, odata, oitems, otree, oparents, ostamp, oauthor, omsg⟩ = B
        · have HF := Mx.hid (show decO B = (⟨okind, odata, oitems, otree, oparents, ostamp, oauthor, omsg⟩, 0) by rw [HQ2.out, if_pos ⟨rfl, rfl, hb⟩])
          have hbd := decide_eq_true hb
          clear HQ2 hm
          generalize hEL : encL ⟨okind, odata, oitems, otree, oparents, ostamp, oauthor, omsg⟩ = EL at *
          have HEL := Mx.hid hEL
          have HB := Mx.hid hb
          clear hEL hb
          go_wp2_with (first | ((with_reducible show wpList _ _ _ _ _ _); refine wpl_want rfl ?_) | ((with_reducible show wpList _ _ _ _ _ _); refine wpl_loadA rfl 76 _ rfl Tryz.aObj6 (go) (0) rfl ([.int .i64 okind, .slice da odata.length dc, .slice ia oitems.length ic, .string otree, .slice pa oparents.length pc, .int .i64 ostamp, .int .i64 oauthor, .string omsg]) rfl (fun i u hh => by rw [Nat.zero_add]; exact hs.rcell (List.mem_cons_self ..) hh) ?_) | (go_at_call 54; refine HEN.out.mono ?_; rintro e w6 ⟨xv, rfl, hk6⟩; obtain ⟨xa, xb, rfl, _⟩ := id hk6.sl0; have hs6 := (hs.call1 hk6).swap; have y2 := hs6.rcell (j := 2) (List.mem_cons_of_mem _ (List.mem_cons_of_mem _ (List.mem_cons_of_mem _ (List.mem_cons_self ..)))) rfl) | (go_at_call 55; refine (bytes_any _ _ _ _ _ hs6.sl1 (HVW.out _ _ _ hs6)).mono ?_; rintro e w7 ⟨rfl, rfl⟩) | ((with_reducible show wpList _ _ _ _ _ _); refine wpl_loadA rfl 76 _ rfl Tryz.aObj6 (go) (0) rfl ([.int .i64 okind, .slice da odata.length dc, .slice ia oitems.length ic, .string otree, .slice pa oparents.length pc, .int .i64 ostamp, .int .i64 oauthor, .string omsg]) rfl (fun i u hh => by rw [Nat.zero_add]; exact hs6.rcell (List.mem_cons_self ..) hh) ?_) | ((with_reducible show wpList _ _ _ _ _ _); refine wpl_storeA rfl 76 _ _ rfl Tryz.aObj6 hs6.up2 (0) rfl ([.int .i64 okind, .slice da odata.length dc, .slice ia oitems.length ic, .string otree, .slice pa oparents.length pc, .int .i64 ostamp, .int .i64 oauthor, .string omsg]) rfl (by rfl) (by simp) (by intro u hu; simp at hu; rcases hu with rfl | rfl | rfl | rfl | rfl | rfl | rfl | rfl <;> rfl) ?_; intro w9 hs9))
          replace hs9 := hs9.cast rfl (show _ = [.int .i64 okind, .slice da odata.length dc, .slice ia oitems.length ic, .string otree, .slice pa oparents.length pc, .int .i64 ostamp, .int .i64 oauthor, .string omsg] by simp)
          have hcw : ∀ i u, ([.int .i64 okind, .slice da odata.length dc, .slice ia oitems.length ic, .string otree, .slice pa oparents.length pc, .int .i64 ostamp, .int .i64 oauthor, .string omsg])[i]? = some u → w9.cell? ⟨gz, i, none⟩ = some u := fun i u h => hs9.rcell (List.mem_cons_self ..) h
          refine bodyPost_ret (v := .tuple #[.agg ([.int .i64 okind, .slice da odata.length dc, .slice ia oitems.length ic, .string otree, .slice pa oparents.length pc, .int .i64 ostamp, .int .i64 oauthor, .string omsg]).toArray, .int .i64 0]) (results_cellA2 Tryz.results33 _ Tryz.aObj6 (g := gz) ([.int .i64 okind, .slice da odata.length dc, .slice ia oitems.length ic, .string otree, .slice pa oparents.length pc, .int .i64 ostamp, .int .i64 oauthor, .string omsg]) ?_ rfl hcw ?_) ?_ ⟨_, _, _, by rw [HF.out]; rfl, by rw [HF.out]; exact hs9.tail.tail.tail.tail.noQ⟩
          · first | (simp; done) | simp [Act.put]
          · first | (simp; done) | simp [Act.put]
          · first | (simp; done) | simp [Act.put]
        · have HF := Mx.hid (show decO B = (noOb, 4) by rw [HQ2.out, if_neg (fun h => hb h.2.2)])
          have hbd := decide_eq_false hb
          clear HQ2 hm
          generalize hEL : encL ⟨okind, odata, oitems, otree, oparents, ostamp, oauthor, omsg⟩ = EL at *
          have HEL := Mx.hid hEL
          have HB := Mx.hid hb
          clear hEL hb
          go_wp2_with (first | ((with_reducible show wpList _ _ _ _ _ _); refine wpl_want rfl ?_) | ((with_reducible show wpList _ _ _ _ _ _); refine wpl_loadA rfl 76 _ rfl Tryz.aObj6 (go) (0) rfl ([.int .i64 okind, .slice da odata.length dc, .slice ia oitems.length ic, .string otree, .slice pa oparents.length pc, .int .i64 ostamp, .int .i64 oauthor, .string omsg]) rfl (fun i u hh => by rw [Nat.zero_add]; exact hs.rcell (List.mem_cons_self ..) hh) ?_) | (go_at_call 54; refine HEN.out.mono ?_; rintro e w6 ⟨xv, rfl, hk6⟩; obtain ⟨xa, xb, rfl, _⟩ := id hk6.sl0; have hs6 := (hs.call1 hk6).swap; have y2 := hs6.rcell (j := 2) (List.mem_cons_of_mem _ (List.mem_cons_of_mem _ (List.mem_cons_of_mem _ (List.mem_cons_self ..)))) rfl) | (go_at_call 55; refine (bytes_any _ _ _ _ _ hs6.sl1 (HVW.out _ _ _ hs6)).mono ?_; rintro e w7 ⟨rfl, rfl⟩) | ((with_reducible show wpList _ _ _ _ _ _); refine wpl_storeA rfl 76 _ _ rfl Tryz.aObj6 hs6.up2 (0) rfl ([.int .i64 (0), .slice none 0 0, .slice none 0 0, .string (str []), .slice none 0 0, .int .i64 (0), .int .i64 (0), .string (str [])]) rfl (by rfl) (by simp) (by intro u hu; simp at hu; rcases hu with rfl | rfl | rfl | rfl | rfl | rfl | rfl | rfl <;> rfl) ?_; intro w9 hs9))
          replace hs9 := hs9.cast rfl (show _ = [.int .i64 (0), .slice none 0 0, .slice none 0 0, .string (str []), .slice none 0 0, .int .i64 (0), .int .i64 (0), .string (str [])] by simp)
          have hcw : ∀ i u, ([.int .i64 (0), .slice none 0 0, .slice none 0 0, .string (str []), .slice none 0 0, .int .i64 (0), .int .i64 (0), .string (str [])])[i]? = some u → w9.cell? ⟨gz, i, none⟩ = some u := fun i u h => hs9.rcell (List.mem_cons_self ..) h
          refine bodyPost_ret (v := .tuple #[.agg ([.int .i64 (0), .slice none 0 0, .slice none 0 0, .string (str []), .slice none 0 0, .int .i64 (0), .int .i64 (0), .string (str [])]).toArray, .int .i64 4]) (results_cellA2 Tryz.results33 _ Tryz.aObj6 (g := gz) ([.int .i64 (0), .slice none 0 0, .slice none 0 0, .string (str []), .slice none 0 0, .int .i64 (0), .int .i64 (0), .string (str [])]) ?_ rfl hcw ?_) ?_ ⟨_, _, _, by rw [HF.out]; rfl, by rw [HF.out]; exact ((hs9.bare.addNil _ _).addNil _ _).addNil _ _⟩
          · first | (simp; done) | simp [Act.put]
          · first | (simp; done) | simp [Act.put]
          · first | (simp; done) | simp [Act.put]
set_option maxRecDepth 100000 in
theorem rdec_nil (v : Value) (w : World) (hv : Sl w 1 v 0 (bs [])) :
    Calls Tryz.prog 33 #[v] w (RDecPost w []) := by
  obtain ⟨ao, cap, rfl, h1, h2, _⟩ := hv
  have HZ := Mx.hid ((St.refl w).madeAt ([.int .i64 (0), .slice none 0 0, .slice none 0 0, .string (str []), .slice none 0 0, .int .i64 (0), .int .i64 (0), .string (str [])]).toArray 76 8 1 w.heap.size rfl (by simp [maxLen]) rfl)
  go_enter Tryz.func33, Tryz.ntmps33
  go_wp2_with ((with_reducible show wpList _ _ _ _ _ _); refine wpl_storeA rfl 76 _ _ rfl Tryz.aObj6 HZ.out (0) rfl ([.int .i64 (0), .slice none 0 0, .slice none 0 0, .string (str []), .slice none 0 0, .int .i64 (0), .int .i64 (0), .string (str [])]) rfl (by rfl) (by simp) (by intro u hu; simp at hu; rcases hu with rfl | rfl | rfl | rfl | rfl | rfl | rfl | rfl <;> rfl) ?_; intro w9 hs9)
  replace hs9 := hs9.cast rfl (show _ = [.int .i64 (0), .slice none 0 0, .slice none 0 0, .string (str []), .slice none 0 0, .int .i64 (0), .int .i64 (0), .string (str [])] by simp)
  have hcw : ∀ i u, ([.int .i64 (0), .slice none 0 0, .slice none 0 0, .string (str []), .slice none 0 0, .int .i64 (0), .int .i64 (0), .string (str [])])[i]? = some u → w9.cell? ⟨w.heap.size, i, none⟩ = some u := fun i u h => hs9.rcell (List.mem_cons_self ..) h
  refine bodyPost_ret (v := .tuple #[.agg ([.int .i64 (0), .slice none 0 0, .slice none 0 0, .string (str []), .slice none 0 0, .int .i64 (0), .int .i64 (0), .string (str [])]).toArray, .int .i64 2]) (results_cellA2 Tryz.results33 _ Tryz.aObj6 (g := w.heap.size) ([.int .i64 (0), .slice none 0 0, .slice none 0 0, .string (str []), .slice none 0 0, .int .i64 (0), .int .i64 (0), .string (str [])]) ?_ rfl hcw ?_) ?_ ⟨_, _, _, rfl, ((hs9.bare.addNil _ _).addNil _ _).addNil _ _⟩
  · first | (simp; done) | simp [Act.put]
  · first | (simp; done) | simp [Act.put]
  · first | (simp; done) | simp [Act.put]
theorem rdecode_any (v : Value) (l : List UInt8) (w : World) (hv : Sl w 1 v l.length (bs l)) (hl : l.length ≤ 1000000000) :
    Calls Tryz.prog 33 #[v] w (RDecPost w l) := by
  match l, hv, hl with
  | [], hv, _ => exact rdec_nil v w hv
  | k :: r, hv, hl => exact rdec_cons v k r w hv hl
end Go.Proofs.YtloogjdafhjheaaGreat

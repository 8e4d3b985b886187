/- reach's commits. -/
import Derived.Test.YtloogjdafhjheaaGreatJ12ObjA
import Derived.Test.YtloogjdafhjheaaGreatJ15DagA
import Derived.Test.YtloogjdafhjheaaGreatJ16SrtG
import Derived.Test.YtloogjdafhjheaaGreatJ19Gtd
import Derived.Deep.LoopGhost
namespace Go.Mx
open Go Go.RowKit
theorem cmt_ob {f : ByteArray → Option (List UInt8)} {id : ByteArray} {b : List UInt8} {o : Ob} (hb : f id = some b) (hd : decO b = (o, 0)) (hk : o.kind = 3) : cmt f id = some o := by
  unfold cmt
  rw [hb]
  simp [hd, hk]
theorem cmt_no {f : ByteArray → Option (List UInt8)} {id : ByteArray} (hb : f id = none) : cmt f id = none := by
  unfold cmt
  rw [hb]
theorem cmt_bad {f : ByteArray → Option (List UInt8)} {id : ByteArray} {b : List UInt8} {o : Ob} {er : Int} (hb : f id = some b) (hd : decO b = (o, er)) (hk : ¬ (er = 0 ∧ o.kind = 3)) : cmt f id = none := by
  unfold cmt
  rw [hb]
  simp only [hd]
  rw [if_neg hk]
theorem nbP_of {f : ByteArray → Option (List UInt8)} {id : ByteArray} {o : Ob} (h : cmt f id = some o) : nbP f id = o.parents := by unfold nbP; rw [h]
theorem cmt_par {f : ByteArray → Option (List UInt8)} {id : ByteArray} {o : Ob} (h : cmt f id = some o) : o.parents.length ≤ 256 := by
  unfold cmt at h
  split at h
  · rename_i b hb
    split at h
    · rename_i hc
      injection h with h
      subst h
      have h1 := refs_len (obO_may (so := some b) (by unfold obO; simp [hc.1]))
      have h2 : (obO (some b)).1 = (decO b).1 := rfl
      rw [h2] at h1
      unfold refsL at h1
      rw [if_neg (by omega), if_pos hc.2, List.length_cons] at h1
      omega
    · cases h
  · cases h
/-- A commit that was met: its name, where its parts stand. -/
abbrev Dn := ByteArray × Value × Value × Value
def SlD (d : Dn) : Prop := (∃ a n c, d.2.1 = .slice a n c) ∧ (∃ a n c, d.2.2.1 = .slice a n c) ∧ ∃ a n c, d.2.2.2 = .slice a n c
def enC (f : ByteArray → Option (List UInt8)) (d : Dn) : Ent := (d.1, OV d.2.1 d.2.2.1 d.2.2.2 ((cmt f d.1).getD noOb))
def rdC (f : ByteArray → Option (List UInt8)) (d : Dn) : Rd := ⟨d.2.2.2, 1, (nbP f d.1).length, ss (nbP f d.1)⟩
theorem mget_en_no {f : ByteArray → Option (List UInt8)} {D : List Dn} {x : ByteArray} (h : x ∉ D.map (·.1)) : mget (D.map (enC f)) x = none := by
  rw [mget_none]
  simpa [enC, List.map_map, Function.comp_def] using h
theorem mget_en {f : ByteArray → Option (List UInt8)} {D : List Dn} {x : ByteArray} (h : x ∈ D.map (·.1)) (hD : ∀ d ∈ D, cmt f d.1 ≠ none ∧ SlD d) : ∃ a1 n1 c1 a2 n2 c2 a3 n3 c3 o, mget (D.map (enC f)) x = some (OV (.slice a1 n1 c1) (.slice a2 n2 c2) (.slice a3 n3 c3) o) := by
  cases hm : mget (D.map (enC f)) x with
  | none =>
    rw [mget_none] at hm
    exact absurd (by simpa [enC, List.map_map, Function.comp_def] using h) hm
  | some v =>
    have h1 := mget_some hm
    obtain ⟨d, hd, he⟩ := List.mem_map.1 h1
    obtain ⟨_, ⟨a1, n1, c1, e1⟩, ⟨a2, n2, c2, e2⟩, a3, n3, c3, e3⟩ := hD d hd
    unfold enC at he
    injection he with h2 h3
    rw [e1, e2, e3] at h3
    subst h3
    exact ⟨_, _, _, _, _, _, _, _, _, _, rfl⟩
theorem St.q3r {w0 w : World} {R : List Row} {Q : List Rd} {p q r : Rd} {v : Value} {size n : Nat} {xs : List Value} (h : St w0 w R (p :: q :: r :: ⟨v, size, n, xs⟩ :: Q)) : Sl w size v n xs := h.rd ⟨v, size, n, xs⟩ (by simp)
theorem VCr {w : World} {g n cap : Nat} {cs : List Value} {size : Nat} (h : Sl w size (.slice (some ⟨g, 0, none⟩) n cap) n cs) : VC g cs w := by
  obtain ⟨ao, cap', he, _, _, _, _, hc⟩ := h
  cases he
  intro i u hu
  obtain ⟨a, ha, h2⟩ := hc i u hu
  cases ha
  by_cases h0 : i = 0
  · subst h0; simpa [Addr.add] using h2
  · simpa [Addr.add, h0] using h2
theorem Mp.castr {w : World} {b : Nat} {l l' : List Ent} (h : Mp w b l) (e : l = l') : Mp w b l' := e ▸ h
/-- What commits leaves. -/
def CmsPost (f : ByteArray → Option (List UInt8)) (ids : List ByteArray) (most : Nat) (w : World) (e : Ending) (w' : World) : Prop :=
  (∃ (D : List Dn) (B : Nat), e = .returned (.tuple #[.map (some B), .int .i64 0]) ∧ St w w' [] (D.map (rdC f)) ∧ Mp w' B (D.map (enC f)) ∧ w.heap.size ≤ B ∧ GoodM f ids most (D.map (·.1))) ∨
  (∃ er : Int, er ≠ 0 ∧ e = .returned (.tuple #[.map none, .int .i64 er]) ∧ St w w' [] [] ∧ ∀ M0, ¬ GoodM f ids most M0)
end Go.Mx
namespace Go.Proofs.YtloogjdafhjheaaGreat
open Go.RowKit Go.Mx

set_option maxRecDepth 200000 in
set_option maxHeartbeats 4000000 in
theorem commits_any (g2 g3 g5 : Nat) (l : List (List UInt8)) (lie : Bool) (v : Value) (ids : List ByteArray) (most : Nat) (w : World) (h : SM w g2 g3 g5 l lie) (hz : ∀ x ∈ l, x.length ≤ 1000000000) (hl : l.length ≤ 1000000) (hv : Sl w 1 v ids.length (ss ids)) (hil : ids.length ≤ 1000000) (hm1 : 1 ≤ most) (hm2 : most ≤ 2000) :
    Calls Tryz.prog 24 #[.func (Fn.func 21) #[] #[.pointer (some ⟨g2, 0, none⟩), .pointer (some ⟨g3, 0, none⟩), .pointer (some ⟨g5, 0, none⟩)], v, .int .i64 (most : Int)] w (CmsPost (srcF l lie) ids most w) := by
  have HSR := Mx.hid (fun id wx (hs : St w wx [] []) => src_any g2 g3 g5 l lie id wx (h.keep hs) (fun x hx => by have := hz x hx; omega) hl)
  have HMEM := Mx.hid (fun id b (hb : srcF l lie id = some b) => hz b (srcI_mem hb))
  have HC := Mx.hid (fun w' (hs : St w w' [] []) => sclone_any v ids w' (hs.old hv) (by omega))
  have hmk := @run_makeMap Tryz.prog
  obtain ⟨ao, cap, rfl, _⟩ := hv.form
  clear h hz hv
  generalize hf : srcF l lie = f at *
  clear hf
  go_enter Tryz.func24, Tryz.ntmps24
  go_wp2_with fail
  refine (HC.out _ ((St.refl w).alloc _)).mono ?_
  rintro e w1 ⟨v1, rfl, hs1⟩
  have HM1 := Mx.hid ((Mp.made w).grow hs1.below)
  replace hs1 := ((St.refl w).alloc _).call1 hs1
  obtain ⟨n0, hn00⟩ : ∃ n0, n0 = 2001 * 300 + ids.length := ⟨_, rfl⟩
  have HN0 := Mx.hid hn00
  have hn0 : n0 ≤ 1700000 := by omega
  clear hn00
  generalize hb2 : w.heap.size = B2 at *
  have HB2 := Mx.hid hb2
  clear hb2
  go_wp2_with fail
  go_loopg [9] n0 (fun kk x wr => ∃ (Wk : List ByteArray) (D : List Dn), Hid ((2001 - D.length) * 300 + Wk.length ≤ kk ∧ kk ≤ n0) ∧ Hid (RJ (nbP f) ids Wk (D.map (·.1))) ∧ Hid (∀ d ∈ D, cmt f d.1 ≠ none ∧ SlD d) ∧ D.length ≤ most ∧ Mp wr B2 (D.map (enC f)) ∧ St w wr [⟨x, 9, 1, Wk.length, ss Wk⟩] (D.map (rdC f)))
  case atStart => exact ⟨ids, [], Mx.hid ⟨by rw [HN0.out]; simp, Nat.le_refl _⟩, Mx.hid (RJ.start _ _), Mx.hid (fun _ h => by cases h), by simp, HM1.out, hs1⟩
  case round =>
    clear hs1 HM1
    obtain ⟨Wk, D, HK, HI, HA, hML, hm, hs⟩ := hrel
    by_cases hne : Wk = []
    · subst hne
      have HD := Mx.hid (rg_done (most := most) HI.out (fun m hm => by obtain ⟨d, hd, rfl⟩ := List.mem_map.1 hm; exact (HA.out d hd).1) (by simpa using hML))
      obtain ⟨xa, xc, rfl, _⟩ := id hs.sl0
      clear HI HA
      go_wp2_with fail
      go_ret2
      exact .inl ⟨D, B2, rfl, hs.sub (List.nil_sublist _) (fun q h => h), hm, Nat.le_of_eq HB2.out, HD.out⟩
    · obtain ⟨Wk', x, rfl⟩ : ∃ Wk' x, Wk = Wk' ++ [x] := ⟨Wk.dropLast, Wk.getLast hne, (List.dropLast_concat_getLast hne).symm⟩
      clear hne
      replace hs := hs.cast (show _ = Wk'.length + 1 by simp) (show _ = ss (Wk' ++ [x]) from rfl)
      obtain ⟨g0, c0, rfl, _, _, hcap, hcap2⟩ := hs.form0 (by omega)
      have c1 := hs.cell (j := Wk'.length) (u := .string x) (by rw [ss_app, List.getElem?_append_right (by rw [ss_len]; omega)]; simp [ss])
      obtain ⟨v1, hcut, hrow⟩ := hs.cutTo (P := Tryz.prog) Tryz.elStr Wk'.length (by omega)
      have hs2 := (hrow _ _ _ hs).cast rfl (show _ = ss Wk' by rw [ss_app, Nat.mul_one, ← ss_len]; exact List.take_left)
      clear hrow hs
      have hwk : Wk'.length ≤ 1700000 := by have := HK.out; simp at this; omega
      have hWI : ∀ y, y ∈ Wk' ++ [x] ↔ y = x ∨ y ∈ Wk' := fun y => by simp [or_comm]
      have hxW : x ∈ Wk' ++ [x] := (hWI x).2 (.inl rfl)
      by_cases hx : x ∈ D.map (·.1)
      · obtain ⟨a1, n1, c1', a2, n2, c2, a3, n3, c3, o, hg⟩ := mget_en (f := f) hx HA.out
        have HG := Mx.hid hg
        have HI2 := Mx.hid (HI.out.skip hWI hx)
        have HK2 := Mx.hid (show (2001 - D.length) * 300 + Wk'.length < gk ∧ gk ≤ n0 by have := HK.out; simp at this; omega)
        clear hx HI HK hWI hg hxW
        unfold OV at HG
        go_wp2_with (first | ((with_reducible show wpList _ _ _ _ _ _); refine wpl_look rfl 63 _ _ true rfl Tryz.underlying63 Tryz.underlying9 Tryz.zeroOb (by exact hm) rfl x rfl ?_; rw [(HG).out]) | ((with_reducible show wpList _ _ _ _ _ _); refine wpl_storeA rfl 56 _ _ rfl Tryz.aObj ((St.refl wr).madeAt ([.int .i64 (0), .slice none 0 0, .slice none 0 0, .string (str []), .slice none 0 0, .int .i64 (0), .int .i64 (0), .string (str [])]).toArray 56 8 1 _ rfl (by simp [maxLen]) rfl) (0) rfl ([.int .i64 o.kind, .slice a1 n1 c1', .slice a2 n2 c2, .string o.tree, .slice a3 n3 c3, .int .i64 o.stamp, .int .i64 o.author, .string o.msg]) rfl (by rfl) (by simp) (by intro u hu; simp at hu; rcases hu with rfl | rfl | rfl | rfl | rfl | rfl | rfl | rfl <;> rfl) ?_; intro w3 hs3))
        go_roundg ((2001 - D.length) * 300 + Wk'.length)
        case measure => exact HK2.out.1
        case rel => exact ⟨Wk', D, Mx.hid ⟨Nat.le_refl _, Nat.le_of_lt (Nat.lt_of_lt_of_le HK2.out.1 HK2.out.2)⟩, HI2, HA, hML, hm.grow hs3.below, hs2.call0 hs3.bare⟩
      · have HG := Mx.hid (mget_en_no (f := f) hx)
        have HLL := Mx.hid (show (D.map (enC f)).length = D.length from List.length_map ..)
        by_cases hlim : most ≤ D.length
        · have HE := Mx.hid (rg_many HI.out hxW hx (by simpa using hlim))
          have q1 : decide ((most : Int) ≤ (D.length : Int)) = true := decide_eq_true (by omega)
          have q2 : decide (most ≤ D.length) = true := decide_eq_true (by omega)
          clear hx HI HK hWI hlim hxW
          go_wp2_with (first | ((with_reducible show wpList _ _ _ _ _ _); refine wpl_look rfl 63 _ _ true rfl Tryz.underlying63 Tryz.underlying9 Tryz.zeroOb (by exact hm) rfl x rfl ?_; rw [(HG).out]; simp only [obZ, Option.getD_none]) | ((with_reducible show wpList _ _ _ _ _ _); refine wpl_storeA rfl 56 _ _ rfl Tryz.aObj ((St.refl wr).madeAt ([.int .i64 (0), .slice none 0 0, .slice none 0 0, .string (str []), .slice none 0 0, .int .i64 (0), .int .i64 (0), .string (str [])]).toArray 56 8 1 _ rfl (by simp [maxLen]) rfl) (0) rfl ([.int .i64 (0), .slice none 0 0, .slice none 0 0, .string (str []), .slice none 0 0, .int .i64 (0), .int .i64 (0), .string (str [])]) rfl (by rfl) (by simp) (by intro u hu; simp at hu; rcases hu with rfl | rfl | rfl | rfl | rfl | rfl | rfl | rfl <;> rfl) ?_; intro w3 hs3) | ((with_reducible show wpList _ _ _ _ _ _); refine wpl_mlen rfl 63 _ rfl Tryz.underlying63 (hm.grow hs3.below) rfl ?_; rw [(HLL).out]))
          go_ret2
          exact .inr ⟨14, by decide, rfl, (hs2.call0 hs3.bare).bare, HE.out⟩
        · have q1 : decide ((most : Int) ≤ (D.length : Int)) = false := decide_eq_false (by omega)
          have q2 : decide (most ≤ D.length) = false := decide_eq_false (by omega)
          have HX := Mx.hid (fun wx (hs : St w wx [] []) => HSR.out x wx hs)
          unfold SourceAns at HX
          cases hfx : f x with
          | none =>
            have HE := Mx.hid (rg_bad (most := most) HI.out hxW (cmt_no hfx))
            rw [hfx] at HX
            clear hx HI HK hWI hlim hxW hfx
            go_wp2_with (first | ((with_reducible show wpList _ _ _ _ _ _); refine wpl_look rfl 63 _ _ true rfl Tryz.underlying63 Tryz.underlying9 Tryz.zeroOb (by exact hm) rfl x rfl ?_; rw [(HG).out]; simp only [obZ, Option.getD_none]) | ((with_reducible show wpList _ _ _ _ _ _); refine wpl_storeA rfl 56 _ _ rfl Tryz.aObj ((St.refl wr).madeAt ([.int .i64 (0), .slice none 0 0, .slice none 0 0, .string (str []), .slice none 0 0, .int .i64 (0), .int .i64 (0), .string (str [])]).toArray 56 8 1 _ rfl (by simp [maxLen]) rfl) (0) rfl ([.int .i64 (0), .slice none 0 0, .slice none 0 0, .string (str []), .slice none 0 0, .int .i64 (0), .int .i64 (0), .string (str [])]) rfl (by rfl) (by simp) (by intro u hu; simp at hu; rcases hu with rfl | rfl | rfl | rfl | rfl | rfl | rfl | rfl <;> rfl) ?_; intro w3 hs3) | ((with_reducible show wpList _ _ _ _ _ _); refine wpl_mlen rfl 63 _ rfl Tryz.underlying63 (hm.grow hs3.below) rfl ?_; rw [(HLL).out]))
            refine (HX.out _ (hs2.call0 hs3.bare).bare).mono ?_
            rintro e w4 ⟨rfl, hk⟩
            go_wp2_with fail
            go_ret2
            exact .inr ⟨7, by decide, rfl, ((hs2.call0 hs3.bare).call0 hk).bare, HE.out⟩
          | some b =>
            obtain ⟨q, er, hD⟩ : ∃ q er, decO b = (q, er) := ⟨_, _, rfl⟩
            have hbl := HMEM.out x b hfx
            have HFX := Mx.hid hfx
            have HML2 := Mx.hid (show D.length + 1 ≤ most by omega)
            have HDD := Mx.hid hD
            have HXW := Mx.hid hxW
            have HNX := Mx.hid hx
            have HWI := Mx.hid hWI
            rw [hfx] at HX
            clear hfx hxW hx hWI hlim
            go_wp2_with (first | ((with_reducible show wpList _ _ _ _ _ _); refine wpl_look rfl 63 _ _ true rfl Tryz.underlying63 Tryz.underlying9 Tryz.zeroOb (by exact hm) rfl x rfl ?_; rw [(HG).out]; simp only [obZ, Option.getD_none]) | ((with_reducible show wpList _ _ _ _ _ _); refine wpl_storeA rfl 56 _ _ rfl Tryz.aObj ((St.refl wr).madeAt ([.int .i64 (0), .slice none 0 0, .slice none 0 0, .string (str []), .slice none 0 0, .int .i64 (0), .int .i64 (0), .string (str [])]).toArray 56 8 1 _ rfl (by simp [maxLen]) rfl) (0) rfl ([.int .i64 (0), .slice none 0 0, .slice none 0 0, .string (str []), .slice none 0 0, .int .i64 (0), .int .i64 (0), .string (str [])]) rfl (by rfl) (by simp) (by intro u hu; simp at hu; rcases hu with rfl | rfl | rfl | rfl | rfl | rfl | rfl | rfl <;> rfl) ?_; intro w3 hs3) | ((with_reducible show wpList _ _ _ _ _ _); refine wpl_mlen rfl 63 _ rfl Tryz.underlying63 (hm.grow hs3.below) rfl ?_; rw [(HLL).out]))
            refine (HX.out _ (hs2.call0 hs3.bare).bare).mono ?_
            rintro e w4 ⟨vb, rfl, hk⟩
            obtain ⟨vo, vc, rfl, _⟩ := id hk.sl0
            have HDC := Mx.hid (decode_any _ b w4 hk.sl0 hbl)
            unfold DecPost at HDC
            rw [hD] at HDC
            clear hD
            have hs4 := (hs2.call0 hs3.bare).call0 hk.bare
            have HM4 := Mx.hid ((hm.grow hs3.below).grow hk.below)
            go_wp2_with fail
            refine HDC.out.mono ?_
            rintro e w5 ⟨vd, vi, vp, rfl, hk5⟩
            obtain ⟨kq, dq, iq, tq, pq, sq, aq, mq⟩ := q
            obtain ⟨qd1, qd2, rfl, _⟩ := id (show Sl w5 1 vd dq.length (bs dq) from hk5.sl0)
            obtain ⟨qi1, qi2, rfl, _⟩ := id (show Sl w5 3 vi iq.length (itms iq) from hk5.sl1)
            obtain ⟨qp1, qp2, rfl, _⟩ := id (show Sl w5 1 vp pq.length (ss pq) from hk5.sl2)
            simp only [OV, obR] at hk5 ⊢
            clear HDC HX
            by_cases hck : er = 0 ∧ kq = 3
            · obtain ⟨rfl, hk3⟩ := hck
              have HCM := Mx.hid (cmt_ob HFX.out HDD.out hk3)
              have q3 : decide (kq = 3) = true := decide_eq_true hk3
              have q4 : (kq == 3) = true := by simpa using hk3
              clear hk3
              have hpl : pq.length ≤ 256 := cmt_par HCM.out
              have HNB := Mx.hid (nbP_of HCM.out)
              have HI2 := Mx.hid (HI.out.meet HWI.out HNX.out (Wk2 := Wk' ++ pq) (fun y => by rw [HNB.out]; exact List.mem_append))
              have HK2 := Mx.hid (show (2001 - (D.length + 1)) * 300 + (Wk' ++ pq).length < gk ∧ gk ≤ n0 by have := HK.out; simp at *; omega)
              clear HI HK
              go_wp2_with (first | (((with_reducible show wpList _ _ _ _ _ _); refine wpl_storeA rfl 56 _ _ rfl Tryz.aObj (hk5.madeAt ([.int .i64 (0), .slice none 0 0, .slice none 0 0, .string (str []), .slice none 0 0, .int .i64 (0), .int .i64 (0), .string (str [])]).toArray 56 8 1 _ rfl (by simp [maxLen]) rfl) (0) rfl ([.int .i64 kq, .slice qd1 dq.length qd2, .slice qi1 iq.length qi2, .string tq, .slice qp1 pq.length qp2, .int .i64 sq, .int .i64 aq, .string mq]) rfl (by rfl) (by simp) (by intro u hu; simp at hu; rcases hu with rfl | rfl | rfl | rfl | rfl | rfl | rfl | rfl <;> rfl) ?_; intro w6 hs6); replace hs6 := hs6.cast rfl (show _ = [.int .i64 kq, .slice qd1 dq.length qd2, .slice qi1 iq.length qi2, .string tq, .slice qp1 pq.length qp2, .int .i64 sq, .int .i64 aq, .string mq] by simp); have k0 : w6.cell? ⟨w5.heap.size, 0, none⟩ = some (.int .i64 kq) := hs6.cell (j := 0) rfl) | ((with_reducible show wpList _ _ _ _ _ _); refine wpl_loadA rfl 56 _ rfl Tryz.aObj (w5.heap.size) (0) rfl ([.int .i64 kq, .slice qd1 dq.length qd2, .slice qi1 iq.length qi2, .string tq, .slice qp1 pq.length qp2, .int .i64 sq, .int .i64 aq, .string mq]) rfl (VC.of hs6 (List.mem_cons_self ..)) ?_))
              have hB6 := (hs4.call hs6).freeze.freeze.freeze.freeze
              obtain ⟨w7, hr7, hm7, hg7, hz7⟩ := run_mset (P := Tryz.prog) Tryz.underlying63 Tryz.underlying9 (HM4.out.grow hs6.below) x (.agg #[.int .i64 kq, .slice qd1 dq.length qd2, .slice qi1 iq.length qi2, .string tq, .slice qp1 pq.length qp2, .int .i64 sq, .int .i64 aq, .string mq])
              have hs7 := hB6.mapSet (HM4.out.grow hs6.below) (Nat.le_of_eq HB2.out) hg7
              have k4 : w7.cell? ⟨w5.heap.size, 4, none⟩ = some (.slice qp1 pq.length qp2) := VCr hs7.q3r 4 _ rfl
              have HM7 := Mx.hid hm7
              clear hm7 hg7 hz7
              go_wp2_with (at_builtin; refine wpl_appG rfl _ _ 23 rfl Tryz.elStr hs7 rfl (by exact hs7.q0) (ss_one _) (by omega) ?_; intro v9 w9 hs9 hg9)
              go_roundg ((2001 - (D.length + 1)) * 300 + (Wk' ++ pq).length)
              case measure => exact HK2.out.1
              case rel =>
                have hrd : rdC f (x, .slice qd1 dq.length qd2, .slice qi1 iq.length qi2, .slice qp1 pq.length qp2) = ⟨.slice qp1 pq.length qp2, 1, pq.length, ss pq⟩ := by unfold rdC; simp only [HNB.out]
                have hme : mset (D.map (enC f)) x (.agg #[.int .i64 kq, .slice qd1 dq.length qd2, .slice qi1 iq.length qi2, .string tq, .slice qp1 pq.length qp2, .int .i64 sq, .int .i64 aq, .string mq]) = (D ++ [((x, .slice qd1 dq.length qd2, .slice qi1 iq.length qi2, .slice qp1 pq.length qp2) : Dn)]).map (enC f) := by
                  rw [mset_none HG.out, List.map_append]
                  simp [enC, HCM.out, OV]
                refine ⟨Wk' ++ pq, D ++ [((x, .slice qd1 dq.length qd2, .slice qi1 iq.length qi2, .slice qp1 pq.length qp2) : Dn)], Mx.hid ⟨by simp, Nat.le_of_lt (Nat.lt_of_lt_of_le HK2.out.1 HK2.out.2)⟩, Mx.hid (by rw [List.map_append]; exact HI2.out), Mx.hid (by
                  intro d hd
                  rcases List.mem_append.1 hd with h | h
                  · exact HA.out d h
                  · rw [List.mem_singleton.1 h]
                    exact ⟨by simp only [HCM.out]; simp, ⟨_, _, _, rfl⟩, ⟨_, _, _, rfl⟩, _, _, _, rfl⟩), (by rw [List.length_append]; exact HML2.out), (HM7.out.castr hme).kept hg9 (HM7.out.apart (hs7.own _ (List.mem_cons_self ..))), ?_⟩
                rw [ss_app, List.length_append, List.map_append]
                exact hs9.sub (List.Sublist.refl _) (fun q hq => by
                  rcases List.mem_append.1 hq with h | h
                  · exact List.mem_cons_of_mem _ (List.mem_cons_of_mem _ (List.mem_cons_of_mem _ (List.mem_cons_of_mem _ h)))
                  · rw [List.mem_singleton.1 h, hrd]; exact List.mem_cons_self ..)
            · have HE := Mx.hid (rg_bad (most := most) HI.out HXW.out (cmt_bad HFX.out HDD.out hck))
              clear HI HK
              by_cases he0 : er = 0
              · subst he0
                have hk3 : ¬ kq = 3 := fun h => hck ⟨rfl, h⟩
                have q3 : decide (kq = 3) = false := decide_eq_false hk3
                have q4 : (kq == 3) = false := by simpa using hk3
                clear hck
                go_wp2_with (((with_reducible show wpList _ _ _ _ _ _); refine wpl_storeA rfl 56 _ _ rfl Tryz.aObj (hk5.madeAt ([.int .i64 (0), .slice none 0 0, .slice none 0 0, .string (str []), .slice none 0 0, .int .i64 (0), .int .i64 (0), .string (str [])]).toArray 56 8 1 _ rfl (by simp [maxLen]) rfl) (0) rfl ([.int .i64 kq, .slice qd1 dq.length qd2, .slice qi1 iq.length qi2, .string tq, .slice qp1 pq.length qp2, .int .i64 sq, .int .i64 aq, .string mq]) rfl (by rfl) (by simp) (by intro u hu; simp at hu; rcases hu with rfl | rfl | rfl | rfl | rfl | rfl | rfl | rfl <;> rfl) ?_; intro w6 hs6); replace hs6 := hs6.cast rfl (show _ = [.int .i64 kq, .slice qd1 dq.length qd2, .slice qi1 iq.length qi2, .string tq, .slice qp1 pq.length qp2, .int .i64 sq, .int .i64 aq, .string mq] by simp); have k0 : w6.cell? ⟨w5.heap.size, 0, none⟩ = some (.int .i64 kq) := hs6.cell (j := 0) rfl)
                go_ret2
                exact .inr ⟨4, by decide, rfl, (hs4.call hs6).bare, HE.out⟩
              · have q3 : decide (er = 0) = false := decide_eq_false he0
                have q4 : (er == 0) = false := by simpa using he0
                clear hck
                go_wp2_with (((with_reducible show wpList _ _ _ _ _ _); refine wpl_storeA rfl 56 _ _ rfl Tryz.aObj (hk5.madeAt ([.int .i64 (0), .slice none 0 0, .slice none 0 0, .string (str []), .slice none 0 0, .int .i64 (0), .int .i64 (0), .string (str [])]).toArray 56 8 1 _ rfl (by simp [maxLen]) rfl) (0) rfl ([.int .i64 kq, .slice qd1 dq.length qd2, .slice qi1 iq.length qi2, .string tq, .slice qp1 pq.length qp2, .int .i64 sq, .int .i64 aq, .string mq]) rfl (by rfl) (by simp) (by intro u hu; simp at hu; rcases hu with rfl | rfl | rfl | rfl | rfl | rfl | rfl | rfl <;> rfl) ?_; intro w6 hs6))
                go_ret2
                exact .inr ⟨4, by decide, rfl, (hs4.call hs6).bare, HE.out⟩
end Go.Proofs.YtloogjdafhjheaaGreat

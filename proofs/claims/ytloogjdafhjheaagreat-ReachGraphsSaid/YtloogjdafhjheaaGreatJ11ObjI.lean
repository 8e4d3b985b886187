/- The walk of obj.Encode: commits; Encode whole. Walks of the source that an object is read from: take, one, number, hash. The walk of obj.read: another kind, a blob. -/
import Derived.Test.YtloogjdafhjheaaGreatJ10ObjE
import Derived.Test.YtloogjdafhjheaaGreatJ2ShaW
namespace Go.Proofs.YtloogjdafhjheaaGreat
open Go.RowKit Go.Mx

set_option maxRecDepth 100000 in
set_option maxHeartbeats 4000000 in
theorem enc_commit (dv iv pv : Value) (o : Ob) (w : World) (h : OB w dv iv pv o) (hz : OZ o) (hm : mayB o = true) (hk : o.kind = 3) :
    Calls Tryz.prog 18 #[OV dv iv pv o] w fun e w' => ∃ v, e = .returned (.tuple #[v, .int .i64 0]) ∧ St w w' [(⟨v, 5, 1, (encL o).length, bs (encL o)⟩ : Row)] [] := by
  have HMY := Mx.hid (fun wx (hs : St w wx [] []) => may_any dv iv pv o wx (OB.old hs h) hz)
  have hm2 := hm
  unfold mayB at hm2
  rw [if_neg (by omega), if_neg (by omega), if_pos hk] at hm2
  simp only [Bool.and_eq_true, decide_eq_true_eq, parentsB, msgB] at hm2
  obtain ⟨⟨⟨⟨⟨⟨u1, u2⟩, ht⟩, ⟨hp, u3⟩, hpl⟩, hs1, hs2⟩, ha1, ha2⟩, u4, hml⟩ := hm2
  clear u1 u2 u3 u4
  rw [hm] at HMY
  have HP := Mx.hid (fun (i : Nat) (hi : i < o.parents.length) => List.all_eq_true.1 hp _ (List.getElem_mem hi))
  have HPZ := Mx.hid (fun (i : Nat) (hi : i < o.parents.length) => hz.ps o.parents[i] (List.getElem_mem hi))
  have HE := Mx.hid (show encL o = 3 :: (rawL o.tree ++ (UInt8.ofNat o.parents.length :: o.parents.flatMap rawL) ++ putL o.stamp.toNat ++ putL o.author.toNat ++ putL o.msg.size ++ bL o.msg) by unfold encL; rw [if_neg (by omega), if_neg (by omega)])
  have Ht := Mx.hid ht
  have H32 := Mx.hid (raw_len ht)
  have z1 := hz.tr
  obtain ⟨d1, d2, rfl, g1, g2, _⟩ := h.d
  obtain ⟨i1, i2, rfl, g3, g4, _⟩ := h.i
  obtain ⟨p1, p2, blk, off, hpv, g5, g6, _, hcell⟩ := h.p.txt
  have HC := Mx.hid hcell
  clear h hz hm hcell hp ht
  obtain ⟨kind, data, items, tree, parents, stamp, author, msg⟩ := o
  subst hpv
  simp only [OV] at *
  subst hk
  obtain ⟨st, rfl⟩ := Int.eq_ofNat_of_zero_le hs1
  obtain ⟨au, rfl⟩ := Int.eq_ofNat_of_zero_le ha1
  have h9a := putL_9 (show st ≤ 72057594037927936 by omega)
  have h9b := putL_9 (show au ≤ 72057594037927936 by omega)
  have h9c := putL_9 (show msg.size ≤ 72057594037927936 by omega)
  have Hm1 := Mx.hid (show [Value.int .u8 (IntKind.u8.wrap (parents.length : Int))] = bs [UInt8.ofNat parents.length] by
    rw [IntWalk.u8_in _ (by omega)]
    show _ = [Value.int .u8 _]
    rw [UInt8.toNat_ofNat']; congr 2; omega)
  clear hs1 ha1
  have HN := Mx.hid (show parents.length ≤ 2 ∧ msg.size ≤ 200 ∧ st ≤ 1099511627776 ∧ au ≤ 255 ∧ (putL st).length ≤ 9 ∧ (putL au).length ≤ 9 ∧ (putL msg.size).length ≤ 9 from ⟨hpl, hml, by omega, by omega, h9a, h9b, h9c⟩)
  clear hpl hml hs2 ha2 h9a h9b h9c
  go_enter Tryz.func18, Tryz.ntmps18
  go_wp2_with (first | (((with_reducible show wpList _ _ _ _ _ _); refine wpl_box rfl 56 _ rfl (St.refl w) ([.int .i64 3, .slice d1 data.length d2, .slice i1 items.length i2, .string tree, .slice p1 parents.length p2, .int .i64 (st : Int), .int .i64 (au : Int), .string msg]) (by rfl) ?_; intro gx wx hsx); (have x0 := hsx.cell (j := 0) rfl; have x1 := hsx.cell (j := 1) rfl; have x2 := hsx.cell (j := 2) rfl; have x3 := hsx.cell (j := 3) rfl; have x4 := hsx.cell (j := 4) rfl; have x5 := hsx.cell (j := 5) rfl; have x6 := hsx.cell (j := 6) rfl; have x7 := hsx.cell (j := 7) rfl)) | ((with_reducible show wpList _ _ _ _ _ _); refine wpl_loadA rfl 56 _ rfl Tryz.aObj (gx) (0) rfl ([.int .i64 3, .slice d1 data.length d2, .slice i1 items.length i2, .string tree, .slice p1 parents.length p2, .int .i64 (st : Int), .int .i64 (au : Int), .string msg]) rfl (fun i u h => by rw [Nat.zero_add]; exact hsx.rcell (List.mem_cons_self ..) h) ?_) | (go_at_call 39; refine (HMY.out _ hsx.bare).mono ?_; rintro e w2 ⟨rfl, hk⟩; replace hsx := hsx.call0 hk; (have x0 := hsx.cell (j := 0) rfl; have x1 := hsx.cell (j := 1) rfl; have x2 := hsx.cell (j := 2) rfl; have x3 := hsx.cell (j := 3) rfl; have x4 := hsx.cell (j := 4) rfl; have x5 := hsx.cell (j := 5) rfl; have x6 := hsx.cell (j := 6) rfl; have x7 := hsx.cell (j := 7) rfl)) | (((with_reducible show wpList _ _ _ _ _ _); refine wpl_lit1 rfl 51 _ rfl Tryz.elU8 hsx (.int .u8 3) (by rfl) (by rfl) ?_; intro gl w3 hs3); have x0 := hs3.rcell (j := 0) (List.mem_cons_of_mem _ (List.mem_cons_self ..)) rfl; have x1 := hs3.rcell (j := 1) (List.mem_cons_of_mem _ (List.mem_cons_self ..)) rfl; have x2 := hs3.rcell (j := 2) (List.mem_cons_of_mem _ (List.mem_cons_self ..)) rfl; have x3 := hs3.rcell (j := 3) (List.mem_cons_of_mem _ (List.mem_cons_self ..)) rfl; have x4 := hs3.rcell (j := 4) (List.mem_cons_of_mem _ (List.mem_cons_self ..)) rfl; have x5 := hs3.rcell (j := 5) (List.mem_cons_of_mem _ (List.mem_cons_self ..)) rfl; have x6 := hs3.rcell (j := 6) (List.mem_cons_of_mem _ (List.mem_cons_self ..)) rfl; have x7 := hs3.rcell (j := 7) (List.mem_cons_of_mem _ (List.mem_cons_self ..)) rfl))
  have h32 := H32.out
  have hs3' : St w w3 ((⟨.slice (some ⟨gl, 0, none⟩) 1 1, 5, 1, ([3]).length, bs ([3])⟩ : Row) :: (⟨.slice (some ⟨gx, 0, none⟩) 1 1, 56, 8, 1, [.int .i64 3, .slice d1 data.length d2, .slice i1 items.length i2, .string tree, .slice p1 parents.length p2, .int .i64 (st : Int), .int .i64 (au : Int), .string msg]⟩ : Row) :: []) [] := hs3
  have HH1 := Mx.hid (hash_go _ [3] tree hs3'.drew z1 Ht.out (by simp))
  have HH2 := Mx.hid (hash_go _ [3] tree (hs3'.bq (.int .u8 (IntKind.u8.wrap (parents.length : Int))) 5).drew z1 Ht.out (by simp))
  go_region_held3 (fun W => W.cell? ⟨gx, 3, none⟩ = some (.string tree) ∧ W.cell? ⟨gx, 4, none⟩ = some (.slice p1 parents.length p2)) (first | exact ⟨hs5.rcell (j := 3) (List.mem_cons_of_mem _ (List.mem_cons_self ..)) rfl, hs5.rcell (j := 4) (List.mem_cons_of_mem _ (List.mem_cons_self ..)) rfl⟩ | exact ⟨hs4.rcell (j := 3) (List.mem_cons_of_mem _ (List.mem_cons_self ..)) rfl, hs4.rcell (j := 4) (List.mem_cons_of_mem _ (List.mem_cons_self ..)) rfl⟩ | exact ⟨hq3.rcell (j := 3) (List.mem_cons_of_mem _ (List.mem_cons_self ..)) rfl, hq3.rcell (j := 4) (List.mem_cons_of_mem _ (List.mem_cons_self ..)) rfl⟩ | go_keep) (first
    | (go_at_call 41; (with_reducible show Calls _ _ _ (World.drew (World.alloc _ _)) _); refine HH2.out.mono ?_; rintro e w4 ⟨v4, rfl, hs4⟩)
    | (go_at_call 41; refine HH1.out.mono ?_; rintro e w4 ⟨v4, rfl, hs4⟩)
    | (refine step_app rfl _ _ 51 rfl Tryz.elU8 (by exact hs4.alloc _) rfl (by exact Sl.one _ _ _) (by intro u hu; simp at hu; subst hu; rfl) (by simp; omega) ?_; intro v5 w5 hs5 _)
    | (refine step_app rfl _ _ 51 rfl Tryz.elU8 (by exact hs4) rfl (by exact hs4.q0) (by intro u hu; simp at hu; subst hu; rfl) (by simp; omega) ?_; intro v5 w5 hs5 _))
  all_goals
    have hs6 : St w w5 ((⟨v5, 5, 1, ([3] ++ rawL tree ++ [UInt8.ofNat parents.length]).length, bs ([3] ++ rawL tree ++ [UInt8.ofNat parents.length])⟩ : Row) :: (⟨.slice (some ⟨gx, 0, none⟩) 1 1, 56, 8, 1, [.int .i64 3, .slice d1 data.length d2, .slice i1 items.length i2, .string tree, .slice p1 parents.length p2, .int .i64 (st : Int), .int .i64 (au : Int), .string msg]⟩ : Row) :: []) [] := hs5.noQ.cast (by simp) (by rw [Hm1.out]; simp [bs])
    have x4 := hs6.rcell (j := 4) (List.mem_cons_of_mem _ (List.mem_cons_self ..)) rfl
    clear hs5 hs4 hs3 hs3' HH1 HH2 hsx
    go_wp2_with fail
    go_loopw [4, 70] (fun x y wr => ∃ (i : Nat) (acc : List UInt8), i ≤ parents.length ∧ y = .int .i64 i ∧ acc.length = 34 + 32 * i ∧ Hid (acc = 3 :: (rawL tree ++ (UInt8.ofNat parents.length :: (parents.take i).flatMap rawL))) ∧ St w wr [(⟨x, 5, 1, (acc).length, bs (acc)⟩ : Row), (⟨.slice (some ⟨gx, 0, none⟩) 1 1, 56, 8, 1, [.int .i64 3, .slice d1 data.length d2, .slice i1 items.length i2, .string tree, .slice p1 parents.length p2, .int .i64 (st : Int), .int .i64 (au : Int), .string msg]⟩ : Row)] []) (fun _ y _ => parents.length - (intOf y).toNat)
    case atStart => exact ⟨0, [3] ++ rawL tree ++ [UInt8.ofNat parents.length], by omega, rfl, by simp; omega, by simp [Hid], hs6⟩
    case round =>
      obtain ⟨i, acc, hi, rfl, hac, He, hs⟩ := hrel
      obtain ⟨n1, n2, n3, n4, h9a, h9b, h9c⟩ := HN.out
      by_cases hlt : i < parents.length
      · obtain ⟨rfl, c0⟩ := HC.out i hlt
        have c0 := hs.keep c0
        have hpz := HPZ.out i hlt
        have HT := Mx.hid (show (parents.take (i + 1)).flatMap rawL = (parents.take i).flatMap rawL ++ rawL parents[i] by rw [List.take_succ_eq_append_getElem hlt, List.flatMap_append]; simp)
        have H3 := Mx.hid (raw_len (HP.out i hlt))
        have hal : acc.length ≤ 1000 := by omega
        have HH3 := Mx.hid (fun (wx : World) (v : Value) (R : List Row) (hx : St w wx ((⟨v, 5, 1, (acc).length, bs (acc)⟩ : Row) :: R) []) => hash_go v acc parents[i] hx hpz (HP.out i hlt) (by omega))
        have Hac := Mx.hid hac
        clear hac n1 n2 n3 n4 h9a h9b h9c
        generalize parents[i] = s at *
        go_wp2_with (go_at_call 41; refine (HH3.out _ _ _ hs).mono ?_; rintro e w4 ⟨v4, rfl, hs4⟩)
        go_roundw
        case rel => exact ⟨i + 1, acc ++ rawL s, by omega, by go_num, by have := H3.out; have := Hac.out; simp; omega, by rw [HT.out, He.out]; simp [Hid], hs4⟩
        case measure => simp [intOf]; omega
      · have hF : encL ⟨3, data, items, tree, parents, (st : Int), (au : Int), msg⟩ = acc ++ putL st ++ putL au ++ putL msg.size ++ bL msg := by
          have h2 := He.out
          rw [List.take_of_length_le (by omega)] at h2
          rw [HE.out, h2]
          simp
        have HF := Mx.hid hF
        have hal : acc.length ≤ 1000 := by omega
        have ha1 : (acc ++ putL st).length ≤ 2000 := by simp; omega
        have ha2 : (acc ++ putL st ++ putL au).length ≤ 3000 := by simp; omega
        have ha3 : (acc ++ putL st ++ putL au ++ putL msg.size).length ≤ 4000 := by simp; omega
        have HX1 := Mx.hid (fun (wx : World) v (hx : St w wx [(⟨v, 5, 1, (acc).length, bs (acc)⟩ : Row), (⟨.slice (some ⟨gx, 0, none⟩) 1 1, 56, 8, 1, [.int .i64 3, .slice d1 data.length d2, .slice i1 items.length i2, .string tree, .slice p1 parents.length p2, .int .i64 (st : Int), .int .i64 (au : Int), .string msg]⟩ : Row)] []) => number_go v acc st hx (by omega) (by omega))
        have HX2 := Mx.hid (fun (wx : World) v (hx : St w wx [(⟨v, 5, 1, (acc ++ putL st).length, bs (acc ++ putL st)⟩ : Row), (⟨.slice (some ⟨gx, 0, none⟩) 1 1, 56, 8, 1, [.int .i64 3, .slice d1 data.length d2, .slice i1 items.length i2, .string tree, .slice p1 parents.length p2, .int .i64 (st : Int), .int .i64 (au : Int), .string msg]⟩ : Row)] []) => number_go v (acc ++ putL st) au hx (by omega) (by omega))
        have HX3 := Mx.hid (fun (wx : World) v (hx : St w wx [(⟨v, 5, 1, (acc ++ putL st ++ putL au).length, bs (acc ++ putL st ++ putL au)⟩ : Row), (⟨.slice (some ⟨gx, 0, none⟩) 1 1, 56, 8, 1, [.int .i64 3, .slice d1 data.length d2, .slice i1 items.length i2, .string tree, .slice p1 parents.length p2, .int .i64 (st : Int), .int .i64 (au : Int), .string msg]⟩ : Row)] []) => number_go v (acc ++ putL st ++ putL au) msg.size hx (by omega) (by omega))
        generalize acc ++ putL st ++ putL au ++ putL msg.size = A3 at *
        generalize acc ++ putL st ++ putL au = A2 at *
        generalize acc ++ putL st = A1 at *
        clear hac hF h9a h9b h9c n1 n3 n4
        go_wp2_with fail
        go_region_held3 (fun W => W.cell? ⟨gx, 5, none⟩ = some (.int .i64 (st : Int)) ∧ W.cell? ⟨gx, 6, none⟩ = some (.int .i64 (au : Int)) ∧ W.cell? ⟨gx, 7, none⟩ = some (.string msg)) (first | exact ⟨hs13.rcell (j := 5) (List.mem_cons_of_mem _ (List.mem_cons_self ..)) rfl, hs13.rcell (j := 6) (List.mem_cons_of_mem _ (List.mem_cons_self ..)) rfl, hs13.rcell (j := 7) (List.mem_cons_of_mem _ (List.mem_cons_self ..)) rfl⟩ | exact ⟨hs12.rcell (j := 5) (List.mem_cons_of_mem _ (List.mem_cons_self ..)) rfl, hs12.rcell (j := 6) (List.mem_cons_of_mem _ (List.mem_cons_self ..)) rfl, hs12.rcell (j := 7) (List.mem_cons_of_mem _ (List.mem_cons_self ..)) rfl⟩ | exact ⟨hs11.rcell (j := 5) (List.mem_cons_of_mem _ (List.mem_cons_self ..)) rfl, hs11.rcell (j := 6) (List.mem_cons_of_mem _ (List.mem_cons_self ..)) rfl, hs11.rcell (j := 7) (List.mem_cons_of_mem _ (List.mem_cons_self ..)) rfl⟩ | exact ⟨hs.rcell (j := 5) (List.mem_cons_of_mem _ (List.mem_cons_self ..)) rfl, hs.rcell (j := 6) (List.mem_cons_of_mem _ (List.mem_cons_self ..)) rfl, hs.rcell (j := 7) (List.mem_cons_of_mem _ (List.mem_cons_self ..)) rfl⟩ | go_keep) (first
          | (go_at_call 40; refine (HX3.out _ _ hs12).mono ?_; rintro e w13 ⟨v13, rfl, hs13⟩)
          | (go_at_call 40; refine (HX2.out _ _ hs11).mono ?_; rintro e w12 ⟨v12, rfl, hs12⟩)
          | (go_at_call 40; refine (HX1.out _ _ hs.drew).mono ?_; rintro e w11 ⟨v11, rfl, hs11⟩))
        have x7 := hs13.rcell (j := 7) (List.mem_cons_of_mem _ (List.mem_cons_self ..)) rfl
        go_wp2_with (at_builtin; refine wpl_app_str rfl _ _ 51 9 rfl Tryz.elU8 Tryz.underlying9 hs13 rfl rfl (by omega) ?_; intro v14 w14 hs14 _)
        go_ret2
        exact ⟨_, rfl, by rw [HF.out]; exact hs14.head.cast (by simp [bL]) (by rw [bs_app]; rfl)⟩

theorem may_kind {o : Ob} (h : mayB o = true) : o.kind = 1 ∨ o.kind = 2 ∨ o.kind = 3 := by
  unfold mayB at h
  by_cases h1 : o.kind = 1
  · exact .inl h1
  · by_cases h2 : o.kind = 2
    · exact .inr (.inl h2)
    · by_cases h3 : o.kind = 3
      · exact .inr (.inr h3)
      · rw [if_neg h1, if_neg h2, if_neg h3] at h; cases h

theorem encode_any (dv iv pv : Value) (o : Ob) (w : World) (h : OB w dv iv pv o) (hz : OZ o) :
    Calls Tryz.prog 18 #[OV dv iv pv o] w (EncPost w o) := by
  unfold EncPost
  cases hm : mayB o with
  | false => exact enc_bad dv iv pv o w h hz hm
  | true =>
    rcases may_kind hm with hk | hk | hk
    · exact enc_blob dv iv pv o w h hz hm hk
    · exact enc_tree dv iv pv o w h hz hm hk
    · exact enc_commit dv iv pv o w h hz hm hk
end Go.Proofs.YtloogjdafhjheaaGreat

namespace Go.Mx
open Go Go.RowKit
theorem tk_stop {n : Nat} {l : List UInt8} {sh : Bool} (h : sh = true ∨ l.length < n) : tk n (l, sh) = ([], (l, true)) := by unfold tk; rw [if_pos h]
theorem tk_go {n : Nat} {l : List UInt8} (h : n ≤ l.length) : tk n (l, false) = (l.take n, (l.drop n, false)) := by unfold tk; rw [if_neg (by simp; omega)]
theorem getS_bounds (l : List UInt8) (h : (getS l 0).2.2 = 0) : (0 ≤ (getS l 0).1 ∧ (getS l 0).1 ≤ 72057594037927936) ∧ 0 ≤ (getS l 0).2.1 ∧ (getS l 0).2.1 ≤ l.length := by
  unfold getS at h ⊢
  by_cases h1 : (0 : Int) < 0 ∨ (l.length : Int) < 0
  · rw [if_pos h1] at h; cases h
  · rw [if_neg h1] at h ⊢
    by_cases h2 : (0 : Int).toNat + hiN (l.drop (0 : Int).toNat) = l.length
    · rw [if_pos h2] at h; cases h
    · rw [if_neg h2] at h ⊢
      split at h
      · cases h
      · rename_i h3
        rw [if_neg h3]
        have := hiN_le (l.drop (0 : Int).toNat)
        simp only [show (0 : Int).toNat = 0 from rfl, List.drop_zero, Nat.zero_add] at *
        refine ⟨⟨by omega, by omega⟩, by omega, by omega⟩
end Go.Mx
namespace Go.Proofs.YtloogjdafhjheaaGreat
open Go.RowKit Go.Mx

/-- What take leaves. -/
def TakePost (w0 : World) (R : List Row) (Q : List Rd) (g : Nat) (x : List UInt8) (s : Src) (e : Ending) (w' : World) : Prop :=
  ∃ vx v' : Value, e = .returned vx ∧ Sl w0 1 vx x.length (bs x) ∧ Sl w0 1 v' s.1.length (bs s.1) ∧ St w0 w' ((⟨.slice (some ⟨g, 0, none⟩) 1 1, 129, 2, 1, [v', .bool s.2]⟩ : Row) :: R) Q
/-- What the others leave. -/
def SrcPost (w0 : World) (R : List Row) (Q : List Rd) (g : Nat) (x : Value) (s : Src) (e : Ending) (w' : World) : Prop :=
  ∃ v' : Value, e = .returned x ∧ Sl w0 1 v' s.1.length (bs s.1) ∧ St w0 w' ((⟨.slice (some ⟨g, 0, none⟩) 1 1, 129, 2, 1, [v', .bool s.2]⟩ : Row) :: R) Q

set_option maxHeartbeats 1000000 in
theorem take_go {w0 w : World} {R : List Row} {Q : List Rd} {g : Nat} {v : Value} {sh : Bool} (l : List UInt8) (n : Nat) (hs : St w0 w ((⟨.slice (some ⟨g, 0, none⟩) 1 1, 129, 2, 1, [v, .bool sh]⟩ : Row) :: R) Q) (hl : Sl w0 1 v l.length (bs l)) (hn : n ≤ 72057594037927936) :
    Calls Tryz.prog 83 #[.pointer (some ⟨g, 0, none⟩), .int .i64 (n : Int)] w (TakePost w0 R Q g (tk n (l, sh)).1 (tk n (l, sh)).2) := by
  have c0 : w.cell? ⟨g, 0, none⟩ = some v := hs.cell (j := 0) rfl
  have c1 : w.cell? ⟨g, 1, none⟩ = some (.bool sh) := hs.cell (j := 1) rfl
  have HL := Mx.hid hl
  cases sh with
  | true =>
    rw [tk_stop (.inl rfl)]
    obtain ⟨ao, cap, rfl, h1, h2, _⟩ := hl.bytes
    unfold maxLen at h2
    clear hl
    go_enter Tryz.func83, Tryz.ntmps83
    go_wp2_with (first | ((with_reducible show wpList _ _ _ _ _ _); refine wpl_want rfl ?_) | ((with_reducible show wpList _ _ _ _ _ _); refine wpl_store1 rfl 4 _ _ rfl hs (1) rfl (.bool true) rfl rfl (by kernel_rfl) (by simp) rfl ?_; intro w1 hs1))
    go_ret
    exact ⟨_, _, rfl, Sl.nil _ 1, HL.out, hs1⟩
  | false =>
    by_cases hlt : l.length < n
    · rw [tk_stop (.inr hlt)]
      obtain ⟨ao, cap, rfl, h1, h2, _⟩ := hl.bytes
      unfold maxLen at h2
      have q1 : decide ((l.length : Int) < (n : Int)) = true := decide_eq_true (by omega)
      have q2 : decide (l.length < n) = true := decide_eq_true hlt
      clear hl hlt
      go_enter Tryz.func83, Tryz.ntmps83
      go_wp2_with (first | ((with_reducible show wpList _ _ _ _ _ _); refine wpl_want rfl ?_) | ((with_reducible show wpList _ _ _ _ _ _); refine wpl_store1 rfl 4 _ _ rfl hs (1) rfl (.bool true) rfl rfl (by kernel_rfl) (by simp) rfl ?_; intro w1 hs1))
      go_ret
      exact ⟨_, _, rfl, Sl.nil _ 1, HL.out, hs1⟩
    · rw [tk_go (by omega)]
      obtain ⟨xa, p2, q2⟩ := hl.cutRun Tryz.elU8 none (some (.int .i64 (n : Int))) 0 n (.inl ⟨rfl, rfl⟩) (.inr ⟨.i64, rfl⟩) (by omega) (by omega)
      obtain ⟨xb, p3, q3⟩ := hl.cutRun Tryz.elU8 (some (.int .i64 (n : Int))) none n l.length (.inr ⟨.i64, rfl⟩) (.inl ⟨rfl, rfl⟩) (by omega) (by omega)
      have ha := Sl.cutB (q2 _ hl) (by omega) (by omega)
      have hb := Sl.cutB (q3 _ hl) (by omega) (by omega)
      rw [List.drop_zero] at ha
      rw [List.take_length] at hb
      obtain ⟨aa, ac, rfl, _⟩ := id ha
      obtain ⟨ba, bc', rfl, _⟩ := id hb
      have HA := Mx.hid ha
      have HB := Mx.hid hb
      obtain ⟨ao, cap, rfl, h1, h2, _⟩ := hl.bytes
      unfold maxLen at h2
      have q1 : decide ((l.length : Int) < (n : Int)) = false := decide_eq_false (by omega)
      have q2 : decide (l.length < n) = false := decide_eq_false hlt
      have Hlt := Mx.hid hlt
      clear hl hlt ha hb
      have HP := Mx.hid (fun w' (h : St w0 w' ((⟨.slice (some ⟨g, 0, none⟩) 1 1, 129, 2, 1, [.slice ba (l.drop n).length bc', .bool false]⟩ : Row) :: R) Q) => (show TakePost w0 R Q g (l.take n) (l.drop n, false) (.returned (.slice aa (l.take n).length ac)) w' from ⟨_, _, rfl, HA.out, HB.out, h⟩))
      clear HA HB
      generalize l.take n = t1 at *
      generalize l.drop n = t2 at *
      generalize t1.length = n1 at *
      generalize t2.length = n2 at *
      go_enter Tryz.func83, Tryz.ntmps83
      go_wp2_with (first | ((with_reducible show wpList _ _ _ _ _ _); refine wpl_want rfl ?_) | ((with_reducible show wpList _ _ _ _ _ _); refine wpl_store1 rfl 51 _ _ rfl hs (0) rfl (.slice ba n2 bc') rfl rfl (by kernel_rfl) (by simp) rfl ?_; intro w1 hs1))
      go_ret
      exact HP.out _ hs1

set_option maxRecDepth 100000 in
theorem one_go {w0 w : World} {R : List Row} {Q : List Rd} {g : Nat} {v : Value} {sh : Bool} (l : List UInt8) (hs : St w0 w ((⟨.slice (some ⟨g, 0, none⟩) 1 1, 129, 2, 1, [v, .bool sh]⟩ : Row) :: R) Q) (hl : Sl w0 1 v l.length (bs l)) :
    Calls Tryz.prog 82 #[.pointer (some ⟨g, 0, none⟩)] w (SrcPost w0 R Q g (.int .i64 ((on (l, sh)).1 : Int)) (on (l, sh)).2) := by
  have HT := Mx.hid (take_go l 1 hs hl (by omega))
  unfold on
  generalize tk 1 (l, sh) = t at *
  obtain ⟨x, s⟩ := t
  simp only [] at *
  clear hs hl
  go_enter Tryz.func82, Tryz.ntmps82
  go_wp2_with fail
  refine HT.out.mono ?_
  rintro e w1 ⟨vx, v', rfl, hx, hv, hs1⟩
  have hx2 := hs1.old hx
  have HV := Mx.hid hv
  clear hv hx
  match x, hx2 with
  | [], hx2 =>
    obtain ⟨ao, cap, rfl, h1, h2, _⟩ := hx2.bytes
    clear hx2
    go_wp2_with fail
    go_ret
    exact ⟨_, rfl, HV.out, hs1⟩
  | y :: x, hx2 =>
    obtain ⟨ao, cap, blk, off, rfl, h1, h2, _, hc⟩ := hx2.byt
    obtain ⟨rfl, c0⟩ := hc 0 (by simp)
    clear hx2 hc
    simp only [Nat.add_zero, List.getElem_cons_zero, List.length_cons] at *
    have q1 : (((x.length + 1 : Nat) : Int) == 0) = false := by simp; omega
    have hy := u8_lt y
    have hw : wrap64 (y.toNat : Int) = (y.toNat : Int) := by unfold wrap64; omega
    go_wp2_with fail
    go_ret
    exact ⟨_, rfl, HV.out, hs1⟩

theorem srcHash_go {w0 w : World} {R : List Row} {Q : List Rd} {g : Nat} {v : Value} {sh : Bool} (l : List UInt8) (hs : St w0 w ((⟨.slice (some ⟨g, 0, none⟩) 1 1, 129, 2, 1, [v, .bool sh]⟩ : Row) :: R) Q) (hl : Sl w0 1 v l.length (bs l)) :
    Calls Tryz.prog 84 #[.pointer (some ⟨g, 0, none⟩)] w (SrcPost w0 R Q g (.string (Mx.hs (l, sh)).1) (Mx.hs (l, sh)).2) := by
  have HT := Mx.hid (take_go l 32 hs hl (by omega))
  have hx32 : (tk 32 (l, sh)).1.length ≤ 32 := by unfold tk; split <;> simp; omega
  unfold Mx.hs
  generalize tk 32 (l, sh) = t at *
  obtain ⟨x, s⟩ := t
  simp only [] at *
  clear hs hl
  go_enter Tryz.func84, Tryz.ntmps84
  go_wp2_with fail
  refine HT.out.mono ?_
  rintro e w1 ⟨vx, v', rfl, hx, hv, hs1⟩
  have HX := Mx.hid (fun wx (h : St w1 wx [] []) => shex_any vx x wx (h.old (hs1.old hx)) (by omega))
  have HV := Mx.hid hv
  clear hv hx
  go_wp2_with fail
  refine (HX.out _ (St.refl _)).mono ?_
  rintro e w2 ⟨rfl, hk⟩
  go_wp2_with fail
  go_ret
  exact ⟨_, rfl, HV.out, hs1.call0 hk⟩

set_option maxHeartbeats 1000000 in
theorem srcNumber_go {w0 w : World} {R : List Row} {Q : List Rd} {g : Nat} {v : Value} {sh : Bool} (l : List UInt8) (hs : St w0 w ((⟨.slice (some ⟨g, 0, none⟩) 1 1, 129, 2, 1, [v, .bool sh]⟩ : Row) :: R) Q) (hl : Sl w0 1 v l.length (bs l)) (hn : l.length ≤ 140737488355328) :
    Calls Tryz.prog 81 #[.pointer (some ⟨g, 0, none⟩)] w (SrcPost w0 R Q g (.int .i64 ((nm (l, sh)).1 : Int)) (nm (l, sh)).2) := by
  have c0 : w.cell? ⟨g, 0, none⟩ = some v := hs.cell (j := 0) rfl
  have HG := Mx.hid (get_any v l 0 w (hs.old hl) hn)
  have hg := getS_bounds l
  unfold GetPost at HG
  unfold nm
  have HT := Mx.hid (fun (wx : World) (n : Nat) (h : St w wx [] []) (hn : n ≤ 72057594037927936) => take_go l n (hs.call0 h) hl hn)
  simp only [] at *
  generalize getS l 0 = t at *
  obtain ⟨n, e, er⟩ := t
  simp only [] at *
  have HL := Mx.hid hl
  obtain ⟨ao, cap, rfl, h1, h2, _⟩ := hl.bytes
  clear hl
  by_cases her : er = 0
  · subst her
    rw [if_pos rfl]
    obtain ⟨⟨hn0, hn1⟩, he0, he1⟩ := hg rfl
    obtain ⟨n, rfl⟩ := Int.eq_ofNat_of_zero_le hn0
    obtain ⟨e, rfl⟩ := Int.eq_ofNat_of_zero_le he0
    have HT2 := Mx.hid (fun w1 hk => HT.out w1 e hk (by omega))
    simp only [Int.toNat_natCast] at *
    generalize tk e (l, sh) = t at *
    obtain ⟨x, s⟩ := t
    simp only [] at *
    clear hn0 he0 hn1 he1 hg
    go_enter Tryz.func81, Tryz.ntmps81
    go_wp2_with fail
    refine HG.out.mono ?_
    rintro e1 w1 ⟨rfl, hk⟩
    go_wp2_with fail
    refine (HT2.out _ hk).mono ?_
    rintro e2 w2 ⟨vx, v', rfl, hx, hv, hs2⟩
    have HV := Mx.hid hv
    clear hv hx
    go_wp2_with fail
    go_ret
    exact ⟨_, rfl, HV.out, hs2⟩
  · rw [if_neg her]
    have q1 : (er != 0) = true := by simpa using her
    clear hg her
    go_enter Tryz.func81, Tryz.ntmps81
    go_wp2_with fail
    refine HG.out.mono ?_
    rintro e1 w1 ⟨rfl, hk⟩
    have hs1 := hs.call0 hk
    go_wp2_with (first | ((with_reducible show wpList _ _ _ _ _ _); refine wpl_store1 rfl 4 _ _ rfl hs1 (1) rfl (.bool true) rfl rfl (by kernel_rfl) (by simp) rfl ?_; intro w2 hs2))
    go_ret
    exact ⟨_, rfl, HL.out, hs2⟩
end Go.Proofs.YtloogjdafhjheaaGreat

namespace Go.Proofs.YtloogjdafhjheaaGreat
open Go.RowKit Go.Mx

/-- The memory of an object that the call made: its three slices. -/
abbrev obR (dv iv pv : Value) (o : Ob) : List Row := [⟨dv, 5, 1, o.data.length, bs o.data⟩, ⟨iv, 88, 3, o.items.length, itms o.items⟩, ⟨pv, 9, 1, o.parents.length, ss o.parents⟩]
def ReadPost (w : World) (o : Ob) (e : Ending) (w' : World) : Prop := ∃ dv iv pv, e = .returned (OV dv iv pv o) ∧ St w w' (obR dv iv pv o) []

set_option maxRecDepth 100000 in
set_option maxHeartbeats 1000000 in
theorem read_other (v : Value) (l : List UInt8) (kind : Int) (w : World) (hv : Sl w 1 v l.length (bs l)) (k1 : kind ≠ 1) (k2 : kind ≠ 2) (k3 : kind ≠ 3) :
    Calls Tryz.prog 65 #[.int .i64 kind, v] w (ReadPost w (readO kind l)) := by
  have hr : readO kind l = ⟨kind, [], [], str [], [], 0, 0, str []⟩ := by unfold readO; rw [if_neg k1, if_neg k2, if_neg k3]
  rw [hr]
  have q1 : (kind == 1) = false := by simpa using k1
  have q2 : (kind == 2) = false := by simpa using k2
  have q3 : (kind == 3) = false := by simpa using k3
  obtain ⟨ao, cap, rfl, h1, h2, _⟩ := hv.bytes
  have HZ := Mx.hid (((St.refl w).madeAt ([.int .i64 (0), .slice none 0 0, .slice none 0 0, .string (str []), .slice none 0 0, .int .i64 (0), .int .i64 (0), .string (str [])]).toArray 56 8 1 w.heap.size rfl (by simp [maxLen]) rfl).madeAt ([.int .i64 (0), .slice none 0 0, .slice none 0 0, .string (str []), .slice none 0 0, .int .i64 (0), .int .i64 (0), .string (str [])]).toArray 56 8 1 (w.heap.size + 1) rfl (by simp [maxLen]) (by rw [heap_size_alloc]))
  clear k1 k2 k3 hr hv
  go_enter Tryz.func65, Tryz.ntmps65
  go_wp2_with (first | (((with_reducible show wpList _ _ _ _ _ _); refine wpl_storeA rfl 56 _ _ rfl Tryz.aObj HZ.out (0) rfl ([.int .i64 (kind), .slice none 0 0, .slice none 0 0, .string (str []), .slice none 0 0, .int .i64 (0), .int .i64 (0), .string (str [])]) rfl (by rfl) (by simp) (by intro u hu; simp at hu; rcases hu with rfl | rfl | rfl | rfl | rfl | rfl | rfl | rfl <;> rfl) ?_; intro w1 hs1); clear HZ) | (((with_reducible show wpList _ _ _ _ _ _); refine wpl_box rfl 129 _ rfl hs1 ([.slice ao l.length cap, .bool false]) (by rfl) ?_; intro gx w2 hs2)) | ((with_reducible show wpList _ _ _ _ _ _); refine wpl_loadA rfl 56 _ rfl Tryz.aObj ((w.heap.size + 1)) (0) rfl ([.int .i64 (kind), .slice none 0 0, .slice none 0 0, .string (str []), .slice none 0 0, .int .i64 (0), .int .i64 (0), .string (str [])]) rfl (fun i u h => by rw [Nat.zero_add]; exact hs2.rcell (List.mem_cons_of_mem _ (List.mem_cons_self ..)) h) ?_) | (((with_reducible show wpList _ _ _ _ _ _); refine wpl_storeA rfl 56 _ _ rfl Tryz.aObj (hs2.perm (List.perm_append_comm (l₁ := [_, _]) (l₂ := [_]))) (0) rfl ([.int .i64 (kind), .slice none 0 0, .slice none 0 0, .string (str []), .slice none 0 0, .int .i64 (0), .int .i64 (0), .string (str [])]) rfl (by rfl) (by simp) (by intro u hu; simp at hu; rcases hu with rfl | rfl | rfl | rfl | rfl | rfl | rfl | rfl <;> rfl) ?_; intro w9 hs9)))
  replace hs9 := hs9.cast rfl (show _ = [.int .i64 (kind), .slice none 0 0, .slice none 0 0, .string (str []), .slice none 0 0, .int .i64 (0), .int .i64 (0), .string (str [])] by simp)
  have hcw : ∀ i u, ([.int .i64 (kind), .slice none 0 0, .slice none 0 0, .string (str []), .slice none 0 0, .int .i64 (0), .int .i64 (0), .string (str [])])[i]? = some u → w9.cell? ⟨w.heap.size, i, none⟩ = some u := fun i u h => hs9.rcell (List.mem_cons_self ..) h
  refine bodyPost_ret (v := .agg ([.int .i64 (kind), .slice none 0 0, .slice none 0 0, .string (str []), .slice none 0 0, .int .i64 (0), .int .i64 (0), .string (str [])]).toArray) (results_cellA Tryz.results65 _ Tryz.aObj (g := w.heap.size) ([.int .i64 (kind), .slice none 0 0, .slice none 0 0, .string (str []), .slice none 0 0, .int .i64 (0), .int .i64 (0), .string (str [])]) ?_ rfl hcw) ?_ ⟨_, _, _, rfl, ((hs9.bare.addNil _ _).addNil _ _).addNil _ _⟩
  · first | (simp; done) | simp [Act.put]
  · first | (simp; done) | simp [Act.put]

set_option maxRecDepth 100000 in
set_option maxHeartbeats 1000000 in
theorem read_blob (v : Value) (l : List UInt8) (w : World) (hv : Sl w 1 v l.length (bs l)) (hl : l.length ≤ 140737488355328) :
    Calls Tryz.prog 65 #[.int .i64 1, v] w (ReadPost w (readO 1 l)) := by
  have hr : readO 1 l = ⟨1, l, [], str [], [], 0, 0, str []⟩ := by unfold readO; rw [if_pos rfl]
  rw [hr]
  have HCL := Mx.hid (fun wx (h : St w wx [] []) => clone_any v l wx (h.old hv) hl)
  obtain ⟨ao, cap, rfl, h1, h2, _⟩ := hv.bytes
  have HZ := Mx.hid (((St.refl w).madeAt ([.int .i64 (0), .slice none 0 0, .slice none 0 0, .string (str []), .slice none 0 0, .int .i64 (0), .int .i64 (0), .string (str [])]).toArray 56 8 1 w.heap.size rfl (by simp [maxLen]) rfl).madeAt ([.int .i64 (0), .slice none 0 0, .slice none 0 0, .string (str []), .slice none 0 0, .int .i64 (0), .int .i64 (0), .string (str [])]).toArray 56 8 1 (w.heap.size + 1) rfl (by simp [maxLen]) (by rw [heap_size_alloc]))
  clear hr hv
  go_enter Tryz.func65, Tryz.ntmps65
  go_wp2_with (first | (((with_reducible show wpList _ _ _ _ _ _); refine wpl_storeA rfl 56 _ _ rfl Tryz.aObj HZ.out (0) rfl ([.int .i64 (1), .slice none 0 0, .slice none 0 0, .string (str []), .slice none 0 0, .int .i64 (0), .int .i64 (0), .string (str [])]) rfl (by rfl) (by simp) (by intro u hu; simp at hu; rcases hu with rfl | rfl | rfl | rfl | rfl | rfl | rfl | rfl <;> rfl) ?_; intro w1 hs1); clear HZ) | (((with_reducible show wpList _ _ _ _ _ _); refine wpl_box rfl 129 _ rfl hs1 ([.slice ao l.length cap, .bool false]) (by rfl) ?_; intro gx w2 hs2)) | (go_at_call 80; refine (HCL.out _ hs2.bare).mono ?_; rintro e w3 ⟨x, rfl, hk⟩; obtain ⟨xo, xc, rfl, _⟩ := id hk.sl0; have hs3 := (hs2.call1 hk).perm (R' := [_, _, _, _]) (List.perm_append_comm (l₁ := [_, _]) (l₂ := [_, _]))) | (((with_reducible show wpList _ _ _ _ _ _); refine wpl_store1 rfl 51 _ _ rfl hs3 (1) rfl (.slice xo l.length xc) rfl rfl (by kernel_rfl) (by simp) rfl ?_; intro w4 hs4)) | ((with_reducible show wpList _ _ _ _ _ _); refine wpl_loadA rfl 56 _ rfl Tryz.aObj ((w.heap.size + 1)) (0) rfl ([.int .i64 (1), .slice xo l.length xc, .slice none 0 0, .string (str []), .slice none 0 0, .int .i64 (0), .int .i64 (0), .string (str [])]) rfl (fun i u h => by rw [Nat.zero_add]; exact hs4.rcell (List.mem_cons_self ..) h) ?_) | (((with_reducible show wpList _ _ _ _ _ _); refine wpl_storeA rfl 56 _ _ rfl Tryz.aObj (hs4.perm (List.Perm.swap _ _ _)) (0) rfl ([.int .i64 (1), .slice xo l.length xc, .slice none 0 0, .string (str []), .slice none 0 0, .int .i64 (0), .int .i64 (0), .string (str [])]) rfl (by rfl) (by simp) (by intro u hu; simp at hu; rcases hu with rfl | rfl | rfl | rfl | rfl | rfl | rfl | rfl <;> rfl) ?_; intro w9 hs9)))
  replace hs9 := hs9.cast rfl (show _ = [.int .i64 (1), .slice xo l.length xc, .slice none 0 0, .string (str []), .slice none 0 0, .int .i64 (0), .int .i64 (0), .string (str [])] by simp)
  have hcw : ∀ i u, ([.int .i64 (1), .slice xo l.length xc, .slice none 0 0, .string (str []), .slice none 0 0, .int .i64 (0), .int .i64 (0), .string (str [])])[i]? = some u → w9.cell? ⟨w.heap.size, i, none⟩ = some u := fun i u h => hs9.rcell (List.mem_cons_self ..) h
  refine bodyPost_ret (v := .agg ([.int .i64 (1), .slice xo l.length xc, .slice none 0 0, .string (str []), .slice none 0 0, .int .i64 (0), .int .i64 (0), .string (str [])]).toArray) (results_cellA Tryz.results65 _ Tryz.aObj (g := w.heap.size) ([.int .i64 (1), .slice xo l.length xc, .slice none 0 0, .string (str []), .slice none 0 0, .int .i64 (0), .int .i64 (0), .string (str [])]) ?_ rfl hcw) ?_ ⟨_, _, _, rfl, (hs9.perm (R' := [_, _, _, _]) (List.perm_append_comm (l₁ := [_, _]) (l₂ := [_, _]))).head.addNil _ _ |>.addNil _ _ |>.perm (R' := [_, _, _]) (List.perm_append_comm (l₁ := [_, _]) (l₂ := [_]))⟩
  · first | (simp; done) | simp [Act.put]
  · first | (simp; done) | simp [Act.put]
end Go.Proofs.YtloogjdafhjheaaGreat

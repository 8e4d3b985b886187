/- Package cell: its constructors and methods, by what their memory holds. -/
import Derived.Test.YtcgdpchekmapfaaDoorCellA
import Derived.Test.YtcgdpchekmapfaaDoorShaX
namespace Go.Proofs.YtcgdpchekmapfaaDoor
open Go.RowKit Go.Mx

abbrev lzr (g : Nat) (v : Value) (d m : Int) (id : ByteArray) (t : Int) : Row := ⟨.slice (some ⟨g, 0, none⟩) 1 1, 109, 6, 1, [.int .u32 d, .int .i32 m, .int .u32 0, v, .string id, .int .i64 t]⟩
/-- A cell that holds a pointer to a Lazy. -/
abbrev pq (c g : Nat) : Rd := ⟨.slice (some ⟨c, 0, none⟩) 1 1, 1, 1, [.pointer (some ⟨g, 0, none⟩)]⟩
/-- A Lazy that was not asked yet, or was. -/
abbrev LZ (g : Nat) (v : Value) (b : List UInt8) (k : Bool) : Row := lzr g v (if k then 1 else 0) 0 (if k then str (hexL (sha b)) else str []) (if k then 1 else 0)

theorem St.pqcell {w0 w : World} {R : List Row} {Q : List Rd} {c g : Nat} (hs : St w0 w R (pq c g :: Q)) : w.cell? ⟨c, 0, none⟩ = some (.pointer (some ⟨g, 0, none⟩)) := by
  obtain ⟨ao, cap, hv, _, _, _, _, h⟩ := hs.q0
  simp only [Value.slice.injEq] at hv
  obtain ⟨rfl, _, _⟩ := hv
  obtain ⟨a, ha, hc⟩ := h 0 (.pointer (some ⟨g, 0, none⟩)) rfl
  obtain rfl := Option.some.inj ha
  rwa [Addr.add_lit, Nat.zero_add] at hc

set_option maxRecDepth 100000 in
/-- The closure that works the hash out. -/
theorem idf_any (w0 w : World) (R : List Row) (Q : List Rd) (g c : Nat) (v : Value) (b : List UInt8) (hs : St w0 w (lzr g v 0 1 (str []) 0 :: R) (pq c g :: rdb v b :: Q)) (hb : b.length ≤ 140737488351232) (hL : ∀ w', St w0 w' [] [] → Laid w') :
    Calls Tryd.prog 61 #[.pointer (some ⟨c, 0, none⟩)] w fun e w' => e = .returned (.tuple #[]) ∧ St w0 w' (lzr g v 0 1 (str (hexL (sha b))) 1 :: R) (pq c g :: rdb v b :: Q) := by
  have HB := Mx.hid hs.q1
  have HL := Mx.hid hL
  have c0 : w.cell? ⟨c, 0, none⟩ = some (.pointer (some ⟨g, 0, none⟩)) := St.pqcell hs
  have c3 : w.cell? ⟨g, 3, none⟩ = some v := hs.cell rfl
  have HS := Mx.hid hs
  clear hs hL
  generalize hd : str (hexL (sha b)) = d
  have HD := Mx.hid hd
  clear hd
  go_enter Tryd.func61, Tryd.ntmps61
  go_wp2_with fail
  (refine wp_region_S (6) (fun W' => W'.cell? ⟨c, 0, none⟩ = some (.pointer (some ⟨g, 0, none⟩)) ∧ W'.cell? ⟨g, 3, none⟩ = some v) (by kernel_rfl) ?_ (fun hHeld => ?_); (focus ((try dsimp only); go_keep)))
  (refine wpAnyS_takeL (i := 0) (v := ?_) rfl (by kernel_rfl) (by kernel_rfl) (by kernel_rfl) (by kernel_rfl) (by kernel_rfl) (by kernel_rfl) (fun _ _ _ h => h) (Or.inl ⟨by rfl, ?_⟩) hHeld ?_; rotate_left 1; (focus (intro w' hSw; (try dsimp only at hSw); go_simp; (try with_reducible rfl))); (try simp only [Act.put, List.setIfInBounds_toArray, List.set_cons_zero, List.set_cons_succ]))
  (refine wpAnyS_takeL (i := 1) (v := ?_) rfl (by kernel_rfl) (by kernel_rfl) (by kernel_rfl) (by kernel_rfl) (by kernel_rfl) (by kernel_rfl) (fun _ _ _ h => h) (Or.inl ⟨by rfl, ?_⟩) hHeld ?_; rotate_left 1; (focus (intro w' hSw; (try dsimp only at hSw); go_simp; (try with_reducible rfl))); (try simp only [Act.put, List.setIfInBounds_toArray, List.set_cons_zero, List.set_cons_succ]))
  (refine wpAnyS_takeW (i := 2) (v := ?_) rfl (by kernel_rfl) (by kernel_rfl) (by kernel_rfl) (by kernel_rfl) (fun _ _ _ h => h) (Or.inl ⟨by rfl, ?_⟩) hHeld ?_; rotate_left 1; (focus (intro w' hSw; go_simp; (try with_reducible rfl))); (try simp only [Act.put, List.setIfInBounds_toArray, List.set_cons_zero, List.set_cons_succ]))
  (refine wpAnyS_takeW (i := 3) (v := ?_) rfl (by kernel_rfl) (by kernel_rfl) (by kernel_rfl) (by kernel_rfl) (fun _ _ _ h => h) (Or.inl ⟨by rfl, ?_⟩) hHeld ?_; rotate_left 1; (focus (intro w' hSw; go_simp; (try with_reducible rfl))); (try simp only [Act.put, List.setIfInBounds_toArray, List.set_cons_zero, List.set_cons_succ]))
  (refine wpAnyS_takeL (i := 4) (v := ?_) rfl (by kernel_rfl) (by kernel_rfl) (by kernel_rfl) (by kernel_rfl) (by kernel_rfl) (by kernel_rfl) (fun _ _ _ h => h) (Or.inl ⟨by rfl, ?_⟩) hHeld ?_; rotate_left 1; (focus (intro w' hSw; (try dsimp only at hSw); go_simp; (try with_reducible rfl))); (try simp only [Act.put, List.setIfInBounds_toArray, List.set_cons_zero, List.set_cons_succ]))
  (refine wpAnyS_ready (rs := [5]) (by kernel_rfl) (by simp) ?_; refine AllS.consL rfl (fun K hK => ?_) AllS.nil)
  (go_simp; go_at_call 26; refine (id_any v b _ (HS.out.drew).q1 hb (fun w' h => HL.out _ ((HS.out.drew).bare.call0 h))).mono ?_; rintro e w' ⟨rfl, hk⟩; go_wp2_with fail)
  have hs2 := (HS.out.drew).call0 hk
  clear hk
  (refine hK.out _ _ ?_ (fun hHeld => ?_); (focus ((try dsimp only); exact ⟨St.pqcell hs2, hs2.cell rfl⟩)); clear hK K; (try simp only [Act.put, List.setIfInBounds_toArray, List.set_cons_zero, List.set_cons_succ]))
  rw [HD.out]
  (refine wpAnyS_seq (by rfl) (by kernel_rfl) ?_; simp only [List.drop_succ_cons, List.drop_zero])
  clear c0 c3
  have HW := Mx.hid hs2
  clear hs2 HS HB HL
  go_wp2_with (first | (((with_reducible show wpList _ _ _ _ _ _); refine wpl_store1 rfl 9 _ _ rfl HW.out (4) rfl (.string d) rfl rfl (by kernel_rfl) (by simp) rfl ?_; intro w3 hs3); have c0 := St.pqcell hs3) | (go_at_call 62; refine (iadd_any g 5 0 1 _ (hs3.cell rfl) (hs3.free (by simp))).mono ?_; rintro e w' ⟨rfl, rfl⟩))
  have hs4 := hs3.setCell Tryd.prog 5 (.int .i64 (wrap64 (0 + 1))) (by simp) rfl
  go_end0
  exact ⟨rfl, hs4.cast rfl (by rw [show wrap64 (0 + 1) = 1 by simp [wrap64]]; rfl)⟩

set_option maxRecDepth 100000 in
set_option maxHeartbeats 2000000 in
theorem lslow_any (w0 w : World) (R : List Row) (Q : List Rd) (g c : Nat) (v : Value) (b : List UInt8) (hs : St w0 w (lzr g v 0 0 (str []) 0 :: R) (pq c g :: rdb v b :: Q)) (hb : b.length ≤ 140737488351232) (hL : ∀ w', St w0 w' [] [] → Laid w') :
    Calls Tryd.prog 80 #[.pointer (some ⟨g, 0, none⟩), .func (.func 61) #[] #[.pointer (some ⟨c, 0, none⟩)]] w fun e w' => e = .returned (.tuple #[]) ∧ St w0 w' (lzr g v 1 0 (str (hexL (sha b))) 1 :: R) (pq c g :: rdb v b :: Q) := by
  have c1 : w.cell? ⟨g, 1, none⟩ = some (.int .i32 0) := hs.cell rfl
  have f1 : w.frozen? ⟨g, 1, none⟩ = false := hs.free (by simp)
  have hs1 : St w0 (w.setCell ⟨g, 1, none⟩ (.int .i32 1)) (lzr g v 0 1 (str []) 0 :: R) (pq c g :: rdb v b :: Q) := hs.setCell Tryd.prog 1 (.int .i32 1) (by simp) rfl
  have HL := Mx.hid hL
  have hnot : ∀ (x : Bool) (w : World), (Op.unary .not (.bool x)).run Tryd.prog w = .ok (.bool (!x)) w := fun _ _ => rfl
  clear hL hs
  go_enter_defers Tryd.func80, Tryd.ntmps80
  go_wp2_with (go_at_call 98; refine (lock_free ⟨g, 1, none⟩ _ (by go_simp) (by go_simp)).mono ?_; rintro e w' ⟨rfl, rfl⟩)
  generalize w.setCell ⟨g, 1, none⟩ (.int .i32 1) = w1 at hs1 ⊢
  clear c1 f1
  have hl := run_call_load (P := Tryd.prog) Tryd.func97 (by kernel_rfl) (by kernel_rfl) (by kernel_rfl) .u32 (by kernel_rfl) (w := w1) (a := ⟨g, 0, none⟩) (x := 0) (hs1.cell rfl)
  go_wp2_with (first | (go_at_call 79; go_in) | (go_at_call 61; refine (idf_any w0 w1 R Q g c v b hs1 hb HL.out).mono ?_; rintro e w2 ⟨rfl, hs2⟩))
  generalize str (hexL (sha b)) = d at *
  refine leaves_cons (f := 100) (args := #[.pointer (some ⟨g, 0, none⟩), .bool true]) (by simp) (by simp [go_sem]) ?_
  have c2 : w2.cell? ⟨g, 0, none⟩ = some (.int .u32 0) := hs2.cell rfl
  have f2 : w2.frozen? ⟨g, 0, none⟩ = false := hs2.free (by simp)
  refine (store_deferred ⟨g, 0, none⟩ (.int .u32 0) .returning _ c2 f2).mono ?_
  rintro e u' w'' ⟨rfl, rfl, rfl⟩
  have hs3 : St w0 (w2.drew.setCell ⟨g, 0, none⟩ (.int .u32 1)) (lzr g v 1 1 d 1 :: R) (pq c g :: rdb v b :: Q) := hs2.drew.setCell Tryd.prog 0 (.int .u32 1) (by simp) rfl
  generalize w2.drew.setCell ⟨g, 0, none⟩ (.int .u32 1) = w3 at hs3 ⊢
  have c3 : w3.cell? ⟨g, 1, none⟩ = some (.int .i32 1) := hs3.cell rfl
  have f3 : w3.frozen? ⟨g, 1, none⟩ = false := hs3.free (by simp)
  refine leaves_cons (f := 99) (args := #[.pointer (some ⟨g, 1, none⟩)]) (by simp [settle]) (by simp [go_sem]) ?_
  refine (unlock_deferred ⟨g, 1, none⟩ _ _ c3 f3).mono ?_
  rintro e u' w'' ⟨rfl, rfl, rfl⟩
  have hs4 : St w0 (w3.setCell ⟨g, 1, none⟩ (.int .i32 0)) (lzr g v 1 0 d 1 :: R) (pq c g :: rdb v b :: Q) := hs3.setCell Tryd.prog 1 (.int .i32 0) (by simp) rfl
  have HS4 := Mx.hid hs4
  clear hs4 hs3 hs2 hs1
  simp [Leaves, settle, results, Tryd.results80]
  exact HS4.out

set_option maxRecDepth 100000 in
theorem ldo_any (w0 w : World) (R : List Row) (Q : List Rd) (g c : Nat) (v : Value) (b : List UInt8) (k : Bool) (hs : St w0 w (LZ g v b k :: R) (pq c g :: rdb v b :: Q)) (hb : b.length ≤ 140737488351232) (hL : ∀ w', St w0 w' [] [] → Laid w') :
    Calls Tryd.prog 53 #[.pointer (some ⟨g, 0, none⟩), .func (.func 61) #[] #[.pointer (some ⟨c, 0, none⟩)]] w fun e w' => e = .returned (.tuple #[]) ∧ St w0 w' (LZ g v b true :: R) (pq c g :: rdb v b :: Q) := by
  have hnot : ∀ (x : Bool) (w : World), (Op.unary .not (.bool x)).run Tryd.prog w = .ok (.bool (!x)) w := fun _ _ => rfl
  have HL := Mx.hid hL
  clear hL
  cases k with
  | false =>
    have hl := run_call_load (P := Tryd.prog) Tryd.func97 (by kernel_rfl) (by kernel_rfl) (by kernel_rfl) .u32 (by kernel_rfl) (w := w) (a := ⟨g, 0, none⟩) (x := 0) (hs.cell rfl)
    go_enter Tryd.func53, Tryd.ntmps53
    go_wp2_with (first | (go_at_call 80; refine (lslow_any w0 w R Q g c v b hs hb HL.out).mono ?_; rintro e w' ⟨rfl, hs2⟩) | (go_at_call 79; go_in))
    go_end0
    exact ⟨rfl, hs2⟩
  | true =>
    have hl := run_call_load (P := Tryd.prog) Tryd.func97 (by kernel_rfl) (by kernel_rfl) (by kernel_rfl) .u32 (by kernel_rfl) (w := w) (a := ⟨g, 0, none⟩) (x := 1) (hs.cell rfl)
    go_enter Tryd.func53, Tryd.ntmps53
    go_wp2_with (go_at_call 79; go_in)
    go_end0
    exact ⟨rfl, hs⟩

theorem lid_any (w0 w : World) (R : List Row) (Q : List Rd) (g : Nat) (v : Value) (b : List UInt8) (k : Bool) (hs : St w0 w (LZ g v b k :: R) (rdb v b :: Q)) (hb : b.length ≤ 140737488351232) (hL : ∀ w', St w0 w' [] [] → Laid w') :
    Calls Tryd.prog 35 #[.pointer (some ⟨g, 0, none⟩)] w fun e w' => e = .returned (.string (str (hexL (sha b)))) ∧ St w0 w' (LZ g v b true :: R) (rdb v b :: Q) := by
  have hmf : ∀ (fn : Fn) (first cap : Array Value) (w : World), (Instr.makeFunc fn first cap).run Tryd.prog w = .ok (.func fn first cap) w := fun _ _ _ _ => rfl
  have hs1 := (hs.madeAt #[.pointer (some ⟨g, 0, none⟩)] 43 1 1 w.heap.size rfl (by simp [maxLen]) rfl).freeze
  have HL := Mx.hid hL
  have HS := Mx.hid hs1
  clear hL hs hs1
  go_enter Tryd.func35, Tryd.ntmps35
  go_wp2_with (go_at_call 53; refine (ldo_any w0 _ R Q g w.heap.size v b k HS.out hb HL.out).mono ?_; rintro e w2 ⟨rfl, hs2⟩; have c0 := St.pqcell hs2; have c4 : w2.cell? ⟨g, 4, none⟩ = some (.string (str (hexL (sha b)))) := hs2.cell rfl; clear HS)
  go_ret
  exact ⟨rfl, hs2.tailQ⟩

theorem ltimes_any (w0 w : World) (R : List Row) (Q : List Rd) (g : Nat) (v : Value) (b : List UInt8) (k : Bool) (hs : St w0 w (LZ g v b k :: R) Q) :
    Calls Tryd.prog 36 #[.pointer (some ⟨g, 0, none⟩)] w fun e w' => e = .returned (.int .i64 (if k then 1 else 0)) ∧ w = w' := by
  have c5 : w.cell? ⟨g, 5, none⟩ = some (.int .i64 (if k then 1 else 0)) := hs.cell rfl
  clear hs
  have hb : (if k then (1 : Int) else 0) = 0 ∨ (if k then (1 : Int) else 0) = 1 := by cases k <;> simp
  generalize (if k then (1 : Int) else 0) = t at *
  have h0 : 0 ≤ t ∧ t ≤ 1 := by omega
  clear hb
  go_enter Tryd.func36, Tryd.ntmps36
  go_wp2_with (go_at_call 63; refine (iload_any g 5 t _ c5).mono ?_; rintro e w' ⟨rfl, rfl⟩)
  go_ret
  exact ⟨rfl, rfl⟩

theorem lbytes_any (w0 w : World) (R : List Row) (Q : List Rd) (g : Nat) (v : Value) (b : List UInt8) (k : Bool) (hs : St w0 w (LZ g v b k :: R) (rdb v b :: Q)) (hb : b.length ≤ 140737488351232) :
    Calls Tryd.prog 37 #[.pointer (some ⟨g, 0, none⟩)] w fun e w' => ∃ v', e = .returned v' ∧ St w w' [byr v' b] [] := by
  have c3 : w.cell? ⟨g, 3, none⟩ = some v := hs.cell rfl
  have HQ := Mx.hid hs.q0
  clear hs
  go_enter Tryd.func37, Tryd.ntmps37
  go_wp2_with (go_at_call 55; refine (clone_any v b _ HQ.out (by omega)).mono ?_; rintro e w1 ⟨v', rfl, hs1⟩)
  go_ret
  exact ⟨v', rfl, hs1⟩

def NewLz (w0 : World) (R : List Row) (Q : List Rd) (b : List UInt8) (e : Ending) (w' : World) : Prop :=
  ∃ g v, e = .returned (.pointer (some ⟨g, 0, none⟩)) ∧ St w0 w' (LZ g v b false :: R) (rdb v b :: Q)
theorem newlz_any (w0 w : World) (R : List Row) (Q : List Rd) (v : Value) (b : List UInt8) (hv : Sl w 1 v b.length (bs b)) (hs : St w0 w R Q) (hb : b.length ≤ 140737488351232) :
    Calls Tryd.prog 34 #[v] w (NewLz w0 R Q b) := by
  have HS := Mx.hid hs
  have HV := Mx.hid hv
  obtain ⟨bo, bc, rfl, _⟩ := id hv
  clear hs hv
  go_enter Tryd.func34, Tryd.ntmps34
  go_wp2_with (go_at_call 55; refine (clone_any _ b _ HV.out (by omega)).mono ?_; rintro e w1 ⟨v', rfl, hs1⟩; obtain ⟨xo, xc, rfl, _⟩ := id hs1.sl0)
  have hs2 := (HS.out.call1 hs1).freeze
  have hs3 := hs2.madeAt (LZ w1.heap.size (.slice xo b.length xc) b false).xs.toArray 109 6 1 w1.heap.size (by rfl) (by simp [maxLen]) rfl
  go_ret
  exact ⟨w1.heap.size, _, rfl, hs3⟩

/-- A counter; a text's cell; the text. -/
abbrev CT (g : Nat) (n : Int) : Row := ⟨.slice (some ⟨g, 0, none⟩) 1 1, 124, 1, 1, [.int .i64 n]⟩
abbrev PC (g p : Nat) : Row := ⟨.slice (some ⟨g, 0, none⟩) 1 1, 118, 1, 1, [.pointer (some ⟨p, 0, none⟩)]⟩
abbrev TX (p : Nat) (s : ByteArray) : Row := ⟨.slice (some ⟨p, 0, none⟩) 1 1, 9, 1, 1, [.string s]⟩

theorem newct_any (w : World) : Calls Tryd.prog 42 #[] w fun e w' => ∃ g, e = .returned (.pointer (some ⟨g, 0, none⟩)) ∧ St w w' [CT g 0] [] := by
  have hs := (St.refl w).madeAt #[.int .i64 0] 124 1 1 w.heap.size (by rfl) (by simp [maxLen]) rfl
  go_enter Tryd.func42, Tryd.ntmps42
  go_wp2_with fail
  go_ret
  exact ⟨_, rfl, hs⟩

theorem ctadd_any (w0 w : World) (R : List Row) (Q : List Rd) (g : Nat) (n x : Int) (hs : St w0 w (CT g n :: R) Q) :
    Calls Tryd.prog 43 #[.pointer (some ⟨g, 0, none⟩), .int .i64 x] w fun e w' => e = .returned (.int .i64 (wrap64 (n + x))) ∧ St w0 w' (CT g (wrap64 (n + x)) :: R) Q := by
  have hb : -9223372036854775808 ≤ wrap64 (n + x) ∧ wrap64 (n + x) ≤ 9223372036854775807 := by unfold wrap64; omega
  have hs1 := hs.setCell Tryd.prog 0 (.int .i64 (wrap64 (n + x))) (by simp) rfl
  have c0 : w.cell? ⟨g, 0, none⟩ = some (.int .i64 n) := hs.cell rfl
  have f0 : w.frozen? ⟨g, 0, none⟩ = false := hs.free (by simp)
  clear hs
  have HA := Mx.hid (iadd_any g 0 n x w c0 f0)
  clear c0 f0
  generalize wrap64 (n + x) = m at *
  go_enter Tryd.func43, Tryd.ntmps43
  go_wp2_with (go_at_call 62; refine (HA.out).mono ?_; rintro e w' ⟨rfl, rfl⟩)
  go_ret
  exact ⟨rfl, hs1⟩

theorem ctget_any (w0 w : World) (R : List Row) (Q : List Rd) (g : Nat) (n : Int) (_h1 : -9223372036854775808 ≤ n) (_h2 : n ≤ 9223372036854775807) (hs : St w0 w (CT g n :: R) Q) :
    Calls Tryd.prog 45 #[.pointer (some ⟨g, 0, none⟩)] w fun e w' => e = .returned (.int .i64 n) ∧ w = w' := by
  have c0 : w.cell? ⟨g, 0, none⟩ = some (.int .i64 n) := hs.cell rfl
  clear hs
  go_enter Tryd.func45, Tryd.ntmps45
  go_wp2_with (go_at_call 63; refine (iload_any g 0 n _ c0).mono ?_; rintro e w' ⟨rfl, rfl⟩)
  go_ret
  exact ⟨rfl, rfl⟩

set_option maxRecDepth 100000 in
theorem newcell_any (s : ByteArray) (w : World) : Calls Tryd.prog 38 #[.string s] w fun e w' => ∃ g p, e = .returned (.pointer (some ⟨g, 0, none⟩)) ∧ St w w' [PC g p, TX p s] [] := by
  have hs := ((St.refl w).madeAt #[.string s] 9 1 1 w.heap.size (by rfl) (by simp [maxLen]) rfl)
  have hs2 := hs.madeAt #[.pointer none] 118 1 1 (w.heap.size + 1) (by rfl) (by simp [maxLen]) (by simp)
  have hs3 := hs.madeAt #[.pointer (some ⟨w.heap.size, 0, none⟩)] 118 1 1 (w.heap.size + 1) (by rfl) (by simp [maxLen]) (by simp)
  obtain ⟨n, hsh, hn⟩ := hs2.swap.shape
  rw [hn] at hsh
  have HP := Mx.hid (pstore_any (w.heap.size + 1) w.heap.size _ _ (hs2.cell rfl) (hs2.free (by simp)) hsh)
  have HS := Mx.hid hs3
  clear hs hs2 hs3 hsh hn
  go_enter Tryd.func38, Tryd.ntmps38
  go_wp2_with (go_at_call 64; refine (HP.out).mono ?_; rintro e w' ⟨rfl, rfl⟩)
  go_ret
  exact ⟨_, _, rfl, HS.out⟩

theorem cellget_any (w0 w : World) (R : List Row) (Q : List Rd) (g p : Nat) (s : ByteArray) (hs : St w0 w (PC g p :: TX p s :: R) Q) :
    Calls Tryd.prog 41 #[.pointer (some ⟨g, 0, none⟩)] w fun e w' => e = .returned (.string s) ∧ w = w' := by
  obtain ⟨n, hsh, hn⟩ := hs.swap.shape
  rw [hn] at hsh
  have c0 : w.cell? ⟨p, 0, none⟩ = some (.string s) := hs.swap.cell rfl
  have HP := Mx.hid (pload_any g p _ (hs.cell rfl) hsh)
  clear hs hsh hn
  go_enter Tryd.func41, Tryd.ntmps41
  go_wp2_with (go_at_call 65; refine (HP.out).mono ?_; rintro e w' ⟨rfl, rfl⟩)
  go_ret
  exact ⟨rfl, rfl⟩

theorem cellset_any (w0 w : World) (R : List Row) (Q : List Rd) (g p : Nat) (s t : ByteArray) (hs : St w0 w (PC g p :: TX p s :: R) Q) :
    Calls Tryd.prog 40 #[.pointer (some ⟨g, 0, none⟩), .string t] w fun e w' => ∃ q, e = .returned (.string s) ∧ St w0 w' (PC g q :: TX q t :: R) Q := by
  have hs1 := hs.madeAt #[.string t] 9 1 1 w.heap.size (by rfl) (by simp [maxLen]) rfl
  have hs2 := hs1.swap
  have hs3 := hs2.setCell Tryd.prog 0 (.pointer (some ⟨w.heap.size, 0, none⟩)) (by simp) rfl
  obtain ⟨n, hsh, hn⟩ := hs1.shape
  rw [hn] at hsh
  have hs4 := (hs3.perm (List.perm_append_comm (l₁ := [_, _]) (l₂ := [TX p s] ++ R) |>.trans (List.Perm.refl _)))
  have hs5 : St w0 _ (TX p s :: (R ++ [_, _])) Q := hs4
  obtain ⟨n2, hsh2, hn2⟩ := hs5.shape
  rw [hn2] at hsh2
  have c0 := hs5.cell (j := 0) (u := .string s) rfl
  have HP := Mx.hid (pswap_any g w.heap.size p _ (hs2.cell rfl) (hs2.free (by simp)) hsh hsh2)
  have hs6 := (hs3.perm (List.perm_append_comm (l₁ := [_, _]) (l₂ := [TX p s])|>.append_right R)).tail
  have HS := Mx.hid hs6
  clear hs hs1 hs2 hs3 hs4 hs5 hs6 hsh hn hsh2 hn2
  go_enter Tryd.func40, Tryd.ntmps40
  go_wp2_with (go_at_call 67; refine (HP.out).mono ?_; rintro e w' ⟨rfl, rfl⟩)
  go_ret
  exact ⟨_, rfl, HS.out⟩

theorem cellswap_any (w0 w : World) (R : List Row) (Q : List Rd) (g p : Nat) (s o t : ByteArray) (hs : St w0 w (PC g p :: TX p s :: R) Q) :
    Calls Tryd.prog 39 #[.pointer (some ⟨g, 0, none⟩), .string o, .string t] w fun e w' => ∃ q, e = .returned (.bool (s.toList == o.toList)) ∧ St w0 w' (PC g q :: TX q (if (s.toList == o.toList) = true then t else s) :: R) Q := by
  have hs1 := hs.madeAt #[.string t] 9 1 1 w.heap.size (by rfl) (by simp [maxLen]) rfl
  have hs2 := hs1.swap
  have hs3 := hs2.setCell Tryd.prog 0 (.pointer (some ⟨w.heap.size, 0, none⟩)) (by simp) rfl
  obtain ⟨n, hsh, hn⟩ := hs1.shape
  rw [hn] at hsh
  have hs5 : St w0 _ (TX p s :: (R ++ [_, _])) Q := hs2.perm (List.perm_append_comm (l₁ := [_, _]) (l₂ := [TX p s] ++ R) |>.trans (List.Perm.refl _))
  obtain ⟨n2, hsh2, hn2⟩ := hs5.shape
  rw [hn2] at hsh2
  have c0 := hs5.cell (j := 0) (u := .string s) rfl
  have HP := Mx.hid (pload_any g p _ (hs2.cell rfl) hsh2)
  have HC := Mx.hid (pcas_any g w.heap.size p _ (hs2.cell rfl) (hs2.free (by simp)) hsh hsh2)
  have HS := Mx.hid (hs3.perm (List.perm_append_comm (l₁ := [_, _]) (l₂ := [TX p s])|>.append_right R)).tail
  have HT := Mx.hid hs1.tail
  clear hs hs1 hs2 hs3 hs5 hsh hn hsh2 hn2
  cases hb : (s.toList == o.toList) with
  | true =>
    go_enter Tryd.func39, Tryd.ntmps39
    go_wp2_with (first | ((with_reducible show wpList _ _ _ _ _ _); refine wpl_want rfl ?_) | (go_at_call 65; refine (HP.out).mono ?_; rintro e w' ⟨rfl, rfl⟩) | (go_at_call 66; refine (HC.out).mono ?_; rintro e w' ⟨rfl, rfl⟩))
    go_ret
    exact ⟨rfl, _, HS.out⟩
  | false =>
    go_enter Tryd.func39, Tryd.ntmps39
    go_wp2_with (go_at_call 65; refine (HP.out).mono ?_; rintro e w' ⟨rfl, rfl⟩)
    go_ret
    exact ⟨rfl, _, HT.out⟩

theorem cttake_no (w0 w : World) (R : List Row) (Q : List Rd) (g : Nat) (n x : Int) (_h1 : -9223372036854775808 ≤ n) (_h2 : n ≤ 9223372036854775807) (hx : x < 0 ∨ n < x) (hs : St w0 w (CT g n :: R) Q) :
    Calls Tryd.prog 44 #[.pointer (some ⟨g, 0, none⟩), .int .i64 x] w fun e w' => e = .returned (.bool false) ∧ w = w' := by
  have c0 : w.cell? ⟨g, 0, none⟩ = some (.int .i64 n) := hs.cell rfl
  clear hs
  rcases (show x < 0 ∨ 0 ≤ x by omega) with hlt | hge
  · have b0 : decide (x < 0) = true := decide_eq_true hlt
    clear hx
    go_enter Tryd.func44, Tryd.ntmps44
    go_wp2_with fail
    refine wp_loop_rounds 1 ?_
    rw [rounds_succ]
    go_wp2_with (go_at_call 63; refine (iload_any g 0 n _ c0).mono ?_; rintro e w' ⟨rfl, rfl⟩)
    go_ret
    exact ⟨rfl, rfl⟩
  · have b0 : decide (x < 0) = false := decide_eq_false (by omega)
    have b1 : decide (n < x) = true := decide_eq_true (by omega)
    clear hx
    go_enter Tryd.func44, Tryd.ntmps44
    go_wp2_with fail
    refine wp_loop_rounds 1 ?_
    rw [rounds_succ]
    go_wp2_with (first | ((with_reducible show wpList _ _ _ _ _ _); refine wpl_want rfl ?_) | (go_at_call 63; refine (iload_any g 0 n _ c0).mono ?_; rintro e w' ⟨rfl, rfl⟩))
    go_ret
    exact ⟨rfl, rfl⟩

theorem cttake_yes (w0 w : World) (R : List Row) (Q : List Rd) (g : Nat) (n x : Int) (h2 : n ≤ 9223372036854775807) (h0 : 0 ≤ x) (hx : x ≤ n) (hs : St w0 w (CT g n :: R) Q) :
    Calls Tryd.prog 44 #[.pointer (some ⟨g, 0, none⟩), .int .i64 x] w fun e w' => e = .returned (.bool true) ∧ St w0 w' (CT g (n - x) :: R) Q := by
  have c0 : w.cell? ⟨g, 0, none⟩ = some (.int .i64 n) := hs.cell rfl
  have f0 : w.frozen? ⟨g, 0, none⟩ = false := hs.free (by simp)
  have hs1 := hs.setCell Tryd.prog 0 (.int .i64 (n - x)) (by simp) rfl
  have b0 : decide (x < 0) = false := decide_eq_false (by omega)
  have b1 : decide (n < x) = false := decide_eq_false (by omega)
  clear hs
  go_enter Tryd.func44, Tryd.ntmps44
  go_wp2_with fail
  refine wp_loop_rounds 1 ?_
  rw [rounds_succ]
  go_wp2_with (first | ((with_reducible show wpList _ _ _ _ _ _); refine wpl_want rfl ?_) | (go_at_call 63; refine (iload_any g 0 n _ c0).mono ?_; rintro e w' ⟨rfl, rfl⟩) | (go_at_call 68; refine (icas_any g 0 n (n - x) _ c0 f0).mono ?_; rintro e w' ⟨rfl, rfl⟩))
  go_ret
  exact ⟨rfl, hs1⟩
end Go.Proofs.YtcgdpchekmapfaaDoor

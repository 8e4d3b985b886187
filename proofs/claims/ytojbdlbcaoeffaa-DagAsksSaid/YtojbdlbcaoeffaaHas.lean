/- marref.Has: is a text among texts. -/
import Derived.Test.YtojbdlbcaoeffaaBase
namespace Go.Proofs.Ytojbdlbcaoeffaa
open Go.RowKit Go.Mx

/-- Is a text among texts. -/
def hasT (l : List ByteArray) (s : ByteArray) : Bool := l.any fun x => x.toList == s.toList
theorem hasT_iff {l : List ByteArray} {s : ByteArray} : hasT l s = true ↔ s ∈ l := by
  unfold hasT
  rw [List.any_eq_true]
  constructor
  · rintro ⟨x, hx, he⟩
    have e : x = s := toL_inj (by simpa using he)
    exact e ▸ hx
  · intro h
    exact ⟨s, h, by simp⟩
theorem hasT_not {l : List ByteArray} {s : ByteArray} : hasT l s = false ↔ s ∉ l := by
  rw [← hasT_iff]; simp

theorem has_any (v : Value) (l : List ByteArray) (w : World) (hv : Sl w 1 v l.length (ss l)) (s : ByteArray) :
    Calls Try.prog 17 #[v, .string s] w fun e w' => e = .returned (.bool (hasT l s)) ∧ w = w' := by
  obtain ⟨ao, cap, blk, off, rfl, h1, h2, _, hc⟩ := hv.txt
  clear hv
  have HC := hid hc
  clear hc
  go_enter Try.func17, Try.ntmps17
  go_wp2_with fail
  go_loop [5] (fun x => ∃ i : Nat, i ≤ l.length ∧ x = .int .i64 i ∧ Hid (s ∉ l.take i)) (fun x => l.length - (intOf x).toNat)
  case atStart => exact ⟨0, by omega, rfl, by simp [Hid]⟩
  case round =>
    obtain ⟨i, hi, rfl, Ht⟩ := hrel
    by_cases hlt : i < l.length
    · obtain ⟨rfl, c1⟩ := HC.out i hlt
      have hii : (i : Int) < (l.length : Int) := by omega
      by_cases hx : l[i] = s
      · have hb := tx_beq hx
        have Hx := hid hx
        clear hx
        go_wp2_with fail
        go_ret
        exact ⟨by rw [hasT_iff.2 (show s ∈ l from Hx.out ▸ List.getElem_mem hlt)]; rfl, rfl⟩
      · have hb := tx_bne hx
        have Hx := hid hx
        clear hx
        go_wp2_with fail
        go_round
        case rel => exact ⟨i + 1, by omega, by go_num, by rw [List.take_succ_eq_append_getElem hlt]; intro h; rcases List.mem_append.1 h with h | h; exact Ht.out h; exact Hx.out (List.mem_singleton.1 h).symm⟩
        case measure => simp [intOf]; omega
    · go_wp2_with fail
      go_ret
      exact ⟨by rw [hasT_not.2 (by have := Ht.out; rwa [List.take_of_length_le (by omega)] at this)]; rfl, rfl⟩
end Go.Proofs.Ytojbdlbcaoeffaa

/- The walk of the document's Split: a text cut at a byte. -/
import Derived.Test.YtgplaeopcejmoaaGreatDoorOptext
import Derived.Test.YtgplaeopcejmoaaGreatDoorRunw
import Derived.Test.YtgplaeopcejmoaaGreatDoorWords
namespace Go.Proofs.YtgplaeopcejmoaaGreatDoor
open Go.RowKit

def splitT (c : UInt8) (s : ByteArray) : List ByteArray := (cutsL c (bs s)).map txt
theorem map_snoc {acc : List Bs} {s : ByteArray} {a b : Nat} {p : Bs} (h : p = ((bs s).drop a).take (b - a)) : acc.map txt ++ [s.extract a b] = (acc ++ [p]).map txt := by
  rw [List.map_append, List.map_cons, List.map_nil, h, ← bs_extract]
  rw [show txt (bs (s.extract a b)) = s.extract a b from (txt_eq rfl).symm]
theorem drop_split {l : Bs} {a b : Nat} {x : UInt8} (hab : a ≤ b) (h : l[b]? = some x) : l.drop a = (l.drop a).take (b - a) ++ x :: l.drop (b + 1) := by
  have h1 := (List.take_append_drop (b - a) (l.drop a)).symm
  rw [List.drop_drop, show a + (b - a) = b by omega] at h1
  obtain ⟨hl, hx⟩ := List.getElem?_eq_some_iff.1 h
  rw [List.drop_eq_getElem_cons hl, hx] at h1
  exact h1
theorem take_more {l : Bs} {a b : Nat} {x c : UInt8} (hab : a ≤ b) (h : l[b]? = some x) (hx : x ≠ c) (hp : ∀ y ∈ (l.drop a).take (b - a), y ≠ c) : ∀ y ∈ (l.drop a).take (b + 1 - a), y ≠ c := by
  intro y hy
  rw [show b + 1 - a = (b - a) + 1 by omega, List.take_add_one] at hy
  have : (l.drop a)[b - a]? = some x := by rw [List.getElem?_drop, show a + (b - a) = b by omega]; exact h
  rw [this] at hy
  rcases List.mem_append.1 hy with hy | hy
  · exact hp y hy
  · simp at hy; rw [hy]; exact hx

set_option maxRecDepth 100000 in
set_option maxHeartbeats 1000000 in
theorem split_any (s : ByteArray) (c : UInt8) (hs : s.size ≤ 90000) (w : World) :
    Calls Tryz.prog 24 #[.string s, .int .u8 c.toNat] w fun e w' => (∃ v, e = .returned v ∧ OwnS w' w.heap.size v (splitT c s)) ∧ Below w.heap.size w w' := by
  go_enter Tryz.func24, Tryz.ntmps24
  go_wp2
  go_loopw [5, 6, 7] (fun v f i wr => Below w.heap.size w wr ∧ ((∃ (a b : Nat) (acc : List Bs), i = .int .i64 b ∧ f = .int .i64 a ∧ b ≤ s.size ∧ a ≤ b ∧ acc.length ≤ a ∧ Go.RowKit.Hid (cutsL c (bs s) = acc ++ cutsL c ((bs s).drop a)) ∧ Go.RowKit.Hid (∀ x ∈ ((bs s).drop a).take (b - a), x ≠ c) ∧ Go.RowKit.Hid (OwnS wr w.heap.size v (acc.map txt))) ∨ (i = .int .i64 ((s.size : Int) + 1) ∧ Go.RowKit.Hid (OwnS wr w.heap.size v (splitT c s))))) (fun _ _ i _ => s.size + 1 - (intOf i).toNat)
  case atStart => exact ⟨Below.refl _ _, .inl ⟨0, 0, [], rfl, rfl, by omega, by omega, by simp, Lib.hid (by simp), Lib.hid (by simp), Lib.hid (OwnS.nil _ _)⟩⟩
  case round =>
    obtain ⟨hb, ⟨a, b, acc, rfl, rfl, hbs, hab, hal, HC, HP, HO⟩ | ⟨rfl, HO⟩⟩ := hrel
    · have hbz := hb.size
      by_cases hlt : b < s.size
      · have hc := bs_get hlt
        obtain ⟨x, hxs⟩ : ∃ x : UInt8, s[b] = x := ⟨_, rfl⟩
        rw [hxs] at hc
        have hci : ∀ h, s[b]'h = x := fun _ => hxs
        clear hxs
        have HX := Lib.hid hc; clear hc
        have hne : ((b : Int) == (s.size : Int)) = false := beq_eq_false_iff_ne.2 (by omega)
        cases hxc : ((x.toNat : Int) == (c.toNat : Int))
        · have hx := u8_ne hxc
          have HXC := Lib.hid hx; clear hx
          go_wp2
          go_roundw
          case rel => exact ⟨hb, .inl ⟨a, b + 1, acc, by go_num, rfl, by omega, by omega, hal, HC, Lib.hid (take_more hab HX.out HXC.out HP.out), HO⟩⟩
          case measure => simp [intOf]; omega
        · have hx := u8_eq hxc
          have HXC := Lib.hid hx; clear hx
          go_wp2_with (at_builtin; refine wpList_append_s rfl (.tmp 25) (.tmp 30) rfl w.heap.size u5 (acc.map txt) ⟨wr.heap.size, 0, none⟩ 1 1 [s.extract a b] rfl rfl (by exact World.ownsRow.alloc HO.out _) (by simp; omega) (by simp; omega) rfl (by omega) (by intro j u hu; exact news_s wr [s.extract a b] j u hu) ?_; intro v3 w3 hown3 hgr3)
          rw [map_snoc rfl] at hown3
          have hb3 : Below w.heap.size w w3 := ((hb.alloc hbz _)).grown hgr3 (by simp; omega) (fun z hz => own_size HO.out z hz)
          go_roundw
          case rel =>
            have e1 := drop_split hab HX.out
            have e2 := HC.out
            rw [e1, HXC.out, cutsL_at c _ _ HP.out] at e2
            exact ⟨hb3, .inl ⟨b + 1, b + 1, _, by go_num, by go_num, by omega, by omega, by simp; omega, Lib.hid (by rw [e2]; simp), Lib.hid (by simp), Lib.hid hown3⟩⟩
          case measure => simp [intOf]; omega
      · obtain rfl : b = s.size := by omega
        go_wp2_with (at_builtin; refine wpList_append_s rfl (.tmp 25) (.tmp 30) rfl w.heap.size u5 (acc.map txt) ⟨wr.heap.size, 0, none⟩ 1 1 [s.extract a s.size] rfl rfl (by exact World.ownsRow.alloc HO.out _) (by simp; omega) (by simp; omega) rfl (by omega) (by intro j u hu; exact news_s wr [s.extract a s.size] j u hu) ?_; intro v3 w3 hown3 hgr3)
        rw [map_snoc rfl] at hown3
        have hb3 : Below w.heap.size w w3 := ((hb.alloc hbz _)).grown hgr3 (by simp; omega) (fun z hz => own_size HO.out z hz)
        go_roundw
        case rel =>
          have e1 : ((bs s).drop a).take (s.size - a) = (bs s).drop a := List.take_of_length_le (by rw [List.length_drop, bs_length]; exact Nat.le_refl _)
          have e2 := HC.out
          have e3 := HP.out
          rw [e1] at e3 hown3
          rw [cutsL_end c _ e3] at e2
          refine ⟨hb3, .inr ⟨by go_num, Lib.hid ?_⟩⟩
          unfold splitT
          rw [e2]; exact hown3
        case measure => simp [intOf]
    · go_wp2
      go_ret
      exact ⟨⟨_, rfl, HO.out⟩, hb⟩
end Go.Proofs.YtgplaeopcejmoaaGreatDoor

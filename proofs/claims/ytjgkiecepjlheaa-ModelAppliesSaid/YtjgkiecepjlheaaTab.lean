/- The walks of model.Table and model.Apply. -/
import Derived.Test.YtjgkiecepjlheaaMw
namespace Go.Proofs.Ytjgkiecepjlheaa
open Go.RowKit

/-- a slice of writes that reads as a list, below block B -/
def Wb (w : World) (B : Nat) (A : Option Addr) (n : Nat) (ws : List Wr) : Prop :=
  ws.length = n ∧ (0 < n → ∃ b o, A = some ⟨b, o, none⟩ ∧ b < B ∧ ∀ k p, ws[k]? = some p →
    w.cell? ⟨b, o + k * 3, none⟩ = some (.string p.1) ∧ w.cell? ⟨b, o + k * 3 + 1, none⟩ = some (.string p.2.1) ∧ w.cell? ⟨b, o + k * 3 + 2, none⟩ = some (.bool p.2.2))
theorem Wb.keep {w w' : World} {B n : Nat} {A : Option Addr} {ws : List Wr} (h : Wb w B A n ws) (hk : ∀ p : Addr, p.block < B → w'.cell? p = w.cell? p) : Wb w' B A n ws :=
  ⟨h.1, fun hn => by
    obtain ⟨b, o, e, hb, hc⟩ := h.2 hn
    exact ⟨b, o, e, hb, fun k p hp => ⟨(hk _ hb).trans (hc k p hp).1, (hk _ hb).trans (hc k p hp).2.1, (hk _ hb).trans (hc k p hp).2.2⟩⟩⟩
theorem Wb.below {w w' : World} {B n : Nat} {A : Option Addr} {ws : List Wr} (h : Wb w B A n ws) (hb : Below B w w') : Wb w' B A n ws := h.keep fun _ hp => hb.cell hp
theorem Wb.more {w : World} {B B' n : Nat} {A : Option Addr} {ws : List Wr} (h : Wb w B A n ws) (hB : B ≤ B') : Wb w B' A n ws :=
  ⟨h.1, fun hn => by
    obtain ⟨b, o, e, hb, hc⟩ := h.2 hn
    exact ⟨b, o, e, by omega, hc⟩⟩

/-- the nine cells of a commit -/
structure Cm where
  tl : Int
  lsn : Int
  node : Int
  n : Int
  act : Int
  level : Int
  told : Bool
  lost : Int
  A : Option Addr
  m : Nat
  c : Nat
  ws : List Wr
def Cm.ok (w : World) (B b o : Nat) (x : Cm) : Prop :=
  w.cell? ⟨b, o, none⟩ = some (.int .u64 x.tl) ∧ w.cell? ⟨b, o + 1, none⟩ = some (.int .u64 x.lsn) ∧ w.cell? ⟨b, o + 2, none⟩ = some (.int .i64 x.node) ∧
  w.cell? ⟨b, o + 3, none⟩ = some (.int .u64 x.n) ∧ w.cell? ⟨b, o + 4, none⟩ = some (.int .i64 x.act) ∧ w.cell? ⟨b, o + 5, none⟩ = some (.int .i64 x.level) ∧
  w.cell? ⟨b, o + 6, none⟩ = some (.bool x.told) ∧ w.cell? ⟨b, o + 7, none⟩ = some (.int .i64 x.lost) ∧ w.cell? ⟨b, o + 8, none⟩ = some (.slice x.A x.m x.c) ∧ Wb w B x.A x.m x.ws
/-- a slice of commits, below block B -/
def Cb (w : World) (B : Nat) (A : Option Addr) (n : Nat) (cs : List Cm) : Prop :=
  cs.length = n ∧ (0 < n → ∃ b o, A = some ⟨b, o, none⟩ ∧ b < B ∧ ∀ k x, cs[k]? = some x → Cm.ok w B b (o + k * 9) x)
theorem Cm.keep {w w' : World} {B b o : Nat} {x : Cm} (h : Cm.ok w B b o x) (hb : b < B) (hk : ∀ p : Addr, p.block < B → w'.cell? p = w.cell? p) : Cm.ok w' B b o x := by
  obtain ⟨h0, h1, h2, h3, h4, h5, h6, h7, h8, h9⟩ := h
  exact ⟨(hk _ hb).trans h0, (hk _ hb).trans h1, (hk _ hb).trans h2, (hk _ hb).trans h3, (hk _ hb).trans h4, (hk _ hb).trans h5, (hk _ hb).trans h6, (hk _ hb).trans h7, (hk _ hb).trans h8, h9.keep hk⟩
theorem Cb.keep {w w' : World} {B n : Nat} {A : Option Addr} {cs : List Cm} (h : Cb w B A n cs) (hk : ∀ p : Addr, p.block < B → w'.cell? p = w.cell? p) : Cb w' B A n cs :=
  ⟨h.1, fun hn => by
    obtain ⟨b, o, e, hb, hc⟩ := h.2 hn
    exact ⟨b, o, e, hb, fun k x hx => Cm.keep (hc k x hx) hb hk⟩⟩
theorem Cb.below {w w' : World} {B n : Nat} {A : Option Addr} {cs : List Cm} (h : Cb w B A n cs) (hb : Below B w w') : Cb w' B A n cs := h.keep fun _ hp => hb.cell hp
theorem Cb.more {w : World} {B B' n : Nat} {A : Option Addr} {cs : List Cm} (h : Cb w B A n cs) (hB : B ≤ B') : Cb w B' A n cs :=
  ⟨h.1, fun hn => by
    obtain ⟨b, o, e, hb, hc⟩ := h.2 hn
    exact ⟨b, o, e, by omega, fun k x hx => by
      obtain ⟨h0, h1, h2, h3, h4, h5, h6, h7, h8, h9⟩ := hc k x hx
      exact ⟨h0, h1, h2, h3, h4, h5, h6, h7, h8, h9.more hB⟩⟩⟩
/-- the first of them -/
theorem Cb.first {w : World} {B n : Nat} {A : Option Addr} {cs : List Cm} (h : Cb w B A n cs) (k : Nat) (hk : k ≤ n) : Cb w B A k (cs.take k) :=
  ⟨by rw [List.length_take, h.1]; omega, fun hn => by
    obtain ⟨b, o, e, hb, hc⟩ := h.2 (by omega)
    refine ⟨b, o, e, hb, fun j x hx => hc j x ?_⟩
    rw [List.getElem?_take] at hx
    split at hx
    · exact hx
    · cases hx⟩

def wrs (cs : List Cm) : List (List Wr) := cs.map (·.ws)
/-- few commits, few writes each -/
def Few (cs : List Cm) : Prop := cs.length ≤ 40 ∧ ∀ x ∈ cs, x.ws.length ≤ 20

theorem flat_at {ps : List Pr} {j : Nat} {u : Value} (h : (flat ps)[j]? = some u) : ∃ k p, ps[k]? = some p ∧ ((j = k * 2 ∧ u = .string p.1) ∨ (j = k * 2 + 1 ∧ u = .string p.2)) := by
  have hj := (List.getElem?_eq_some_iff.1 h).1
  rw [flat_length] at hj
  have e := List.getElem?_eq_getElem (l := ps) (i := j / 2) (by omega)
  obtain ⟨h1, h2⟩ := flat_get e
  refine ⟨j / 2, _, e, ?_⟩
  rcases Nat.mod_two_eq_zero_or_one j with h0 | h0
  · left
    have : j = j / 2 * 2 := by omega
    rw [← this, h] at h1
    exact ⟨this, by injection h1⟩
  · right
    have : j = j / 2 * 2 + 1 := by omega
    rw [← this, h] at h2
    exact ⟨this, by injection h2⟩

theorem append_tb (w : World) (base n B m c : Nat) (v : Value) (ps qs : List Pr) (A : Option Addr) (hown : w.ownsRow base 40 2 v n (flat ps)) (hq : Tb w B A m qs) (hn : n + m ≤ 1000000) (hbase : base ≤ w.heap.size) (ty : TypeId) :
    ∃ v' w', (∀ cs, (builtin .append #[23, 23] ty cs #[v, .slice A m c]).run Try.prog w = .ok (.value v') w') ∧ w'.ownsRow base 40 2 v' (n + m) (flat (ps ++ qs)) ∧ w.grownBy w' v.ownBlock := by
  obtain ⟨i0, hi0, hz0, hz1, hz2⟩ := info_parts info40
  have hl := hq.1
  cases A with
  | none =>
    have hm : m = 0 := by
      rcases Nat.eq_zero_or_pos m with h | h
      · exact h
      · obtain ⟨b, o, e, _⟩ := hq.2 h; cases e
    subst hm
    have hqn : qs = [] := List.eq_nil_of_length_eq_zero hl
    subst hqn
    refine ⟨v, w, fun cs => ?_, by simpa using hown, ⟨rfl, rfl, rfl, Nat.le_refl _, fun _ _ _ => rfl⟩⟩
    rcases hown.2 with ⟨rfl, rfl⟩ | ⟨g, cap, cur, rfl, _, _, hnc, _⟩
    · simp [builtin, Builtin.append_, run_underlying Try.underlying23, sizeOf, typeInfo, hi0, Builtin.lenOf, Builtin.firstCells]
    · simp [builtin, Builtin.append_, run_underlying Try.underlying23, sizeOf, typeInfo, hi0, Builtin.lenOf, Builtin.firstCells, hnc, storeCells]
  | some a =>
    obtain ⟨v', w', hr, h1, h2, _⟩ := run_append_own (P := Try.prog) w base 23 ty 40 i0 _ 2 32 Try.underlying23 hi0 hz0 hz1 hz2 rfl (by omega) v n (flat ps) hown a m c (flat qs) (by rw [flat_length, hl])
      (fun j u hu => by
        obtain ⟨k, p, hp, hj⟩ := flat_at hu
        have hk := (List.getElem?_eq_some_iff.1 hp).1
        obtain ⟨b, o, e, _, hc⟩ := hq.2 (by omega)
        cases e
        obtain ⟨c1, c2⟩ := hc k p hp
        rw [Addr.add_lit]
        rcases hj with ⟨rfl, rfl⟩ | ⟨rfl, rfl⟩
        · exact c1
        · rw [← Nat.add_assoc]; exact c2) (flat_one _) (by unfold maxLen; omega) (by omega) hbase
    exact ⟨v', w', fun _ => by simp only [builtin, Sem.run_bind, hr, Result.andThen_ok, Sem.run_pure], by rw [flat_append]; exact h1, h2⟩

theorem Tb.alloc {w : World} {B n : Nat} {A : Option Addr} {ps : List Pr} (h : Tb w B A n ps) (hB : B ≤ w.heap.size) (o : Obj) : Tb (w.alloc o) B A n ps := h.below ((Below.refl _ _).alloc hB o)

set_option maxHeartbeats 1000000 in
theorem clone_any (A : Option Addr) (n c : Nat) (ps : List Pr) (w : World) (hn : n ≤ 900000) (ht : Tb w w.heap.size A n ps) :
    Calls Try.prog 19 #[.slice A n c] w fun e w' => ∃ v, e = .returned v ∧ w'.ownsRow w.heap.size 40 2 v n (flat ps) ∧ Below w.heap.size w w' := by
  have hl := ht.1
  have HL := Lib.hid hl; clear hl
  have un := fun (w : World) (A : Option Addr) (n c : Nat) => Lib.run_eql_slice_nil (P := Try.prog) w 23 40 A n c 0 0 Try.underlying23
  cases A with
  | none =>
    have h0 : n = 0 := by
      rcases Nat.eq_zero_or_pos n with h | h
      · exact h
      · obtain ⟨b, o, e, _⟩ := ht.2 h; cases e
    subst h0
    have : ps = [] := List.eq_nil_of_length_eq_zero HL.out
    subst this
    go_enter Try.func19, Try.ntmps19
    go_wp2
    go_ret
    exact ⟨_, rfl, World.ownsRow_nil _ _ _ _, Below.refl _ _⟩
  | some a =>
    have hown0 : (w.alloc (.cells #[] 40)).ownsRow w.heap.size 40 2 (.slice (some ⟨w.heap.size, 0, none⟩) 0 0) 0 (flat []) := World.ownsRow_made w #[] 0 (Nat.le_refl _) (Nat.zero_le _) rfl
    obtain ⟨v', w', hr, h1, h2⟩ := append_tb (w.alloc (.cells #[] 40)) w.heap.size 0 w.heap.size n c _ [] ps (some a) hown0 (ht.alloc (Nat.le_refl _) _) (by omega) (by simp) 23
    have hb : Below w.heap.size w w' := ((Below.refl _ _).alloc (Nat.le_refl _) _).grown h2 (by simp) (fun k hk => by cases hk; exact Nat.le_refl _)
    have H1 := Lib.hid hr; clear hr
    have H2 := Lib.hid h1; clear h1
    go_enter Try.func19, Try.ntmps19
    go_wp2_with (refine wpList_two rfl .append (.tmp 5) (.tmp 6) #[23, 23] rfl (.slice (some ⟨w.heap.size, 0, none⟩) 0 0) (.slice (some a) n c) rfl rfl H1.out ?_)
    go_ret
    exact ⟨v', rfl, by have := H2.out; simpa using this, hb⟩

end Go.Proofs.Ytjgkiecepjlheaa

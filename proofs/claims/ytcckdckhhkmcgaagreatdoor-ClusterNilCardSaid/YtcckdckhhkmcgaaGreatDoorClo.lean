/- The closed facts of the row that go over all functions and types of the program, in pieces: in one piece each outgrows 10 GB. -/
import Derived.Test.YtcckdckhhkmcgaaGreatDoorChecked
import Derived.Test.YtcckdckhhkmcgaaGreatDoorRows
import GoSem.ClaimJoined
import GoSem.ClaimFollow
import GoSem.ClaimDataLaid
import Derived.KernelRfl
namespace Go.Proofs.YtcckdckhhkmcgaaGreatDoor.Clo
open Go
/-! ### plain laws: a closure by a table of what leads where, its seen ones kept as bits -/
def lkC {α : Type} (K : Nat) : List (List α) → Nat → Option α
  | [], _ => none
  | c :: l, f => bif Nat.ble K f then lkC K l (f - K) else c[f]?
def fitsC {α : Type} (K : Nat) : List (List α) → Bool
  | [] => true
  | c :: l => (match l with | [] => Nat.ble c.length K | _ :: _ => Nat.beq c.length K) && fitsC K l
theorem lkC_eq {α : Type} (K : Nat) : ∀ (l : List (List α)) (f : Nat), fitsC K l = true → lkC K l f = l.flatten[f]?
  | [], f, _ => by simp [lkC]
  | c :: l, f, h => by
    unfold fitsC at h
    rw [Bool.and_eq_true] at h
    have ih := lkC_eq K l (f - K) h.2
    unfold lkC
    rw [List.flatten_cons]
    cases l with
    | nil =>
      have hc := Nat.le_of_ble_eq_true h.1
      rw [List.flatten_nil, List.append_nil]
      cases hb : Nat.ble K f with
      | false => rfl
      | true =>
        rw [cond_true, List.getElem?_eq_none (Nat.le_trans hc (Nat.le_of_ble_eq_true hb))]
        rfl
    | cons d l =>
      have hc : c.length = K := Nat.eq_of_beq_eq_true h.1
      cases hb : Nat.ble K f with
      | false =>
        have hf : f < K := Nat.lt_of_not_le fun hk => by rw [Nat.ble_eq_true_of_le hk] at hb; cases hb
        rw [cond_false, List.getElem?_append_left (by rw [hc]; exact hf)]
      | true =>
        rw [cond_true, List.getElem?_append_right (by rw [hc]; exact Nat.le_of_ble_eq_true hb), hc]
        exact ih
def hasB (m f : Nat) : Bool := Nat.beq (Nat.land 1 (Nat.shiftRight m f)) 1
def setB (m f : Nat) : Nat := Nat.lor m (Nat.shiftLeft 1 f)
theorem hasB_eq (m f : Nat) : hasB m f = m.testBit f := by
  show Nat.beq (1 &&& (m >>> f)) 1 = (1 &&& (m >>> f) != 0)
  have h : 1 &&& (m >>> f) = 0 ∨ 1 &&& (m >>> f) = 1 := by
    rw [Nat.one_and_eq_mod_two]
    rcases Nat.mod_two_eq_zero_or_one (m >>> f) with h | h
    · exact Or.inl h
    · exact Or.inr h
  rcases h with h | h <;> rw [h] <;> rfl
theorem hasB_set (m f i : Nat) : hasB (setB m f) i = (hasB m i || decide (f = i)) := by
  rw [hasB_eq, hasB_eq]
  show (m ||| (1 <<< f)).testBit i = _
  rw [Nat.testBit_or, Nat.one_shiftLeft, Nat.testBit_two_pow]
theorem hasB_zero (i : Nat) : hasB 0 i = false := by rw [hasB_eq, Nat.zero_testBit]
def cvF (lead : Nat → List Nat) (n : Nat) : List Nat → Nat → List Nat → Option (List Nat) :=
  Nat.rec (motive := fun _ => List Nat → Nat → List Nat → Option (List Nat))
    (fun todo _ acc => match todo with | [] => some acc.reverse | _ :: _ => none)
    (fun _ ih todo m acc => match todo with
      | [] => some acc.reverse
      | f :: t => bif hasB m f then ih t m acc else ih (lead f ++ t) (setB m f) (f :: acc)) n
theorem cvF_ok {P : Program} {lead : Nat → List Nat} (hl : ∀ f, (P.funcs[f]?).elim [] P.leadsTo = lead f) :
    ∀ (k : Nat) (todo : List Nat) (m : Nat) (acc L : List Nat) (n : Nat), (∀ i, hasB m i = acc.contains i) → cvF lead k todo m acc = some L → k ≤ n → P.closureVia n todo acc = L
  | k, [], m, acc, L, n, _, h, _ => by
    have h1 : cvF lead k [] m acc = some acc.reverse := by cases k <;> rfl
    rw [h1] at h
    have h2 : P.closureVia n [] acc = acc.reverse := by cases n <;> rfl
    rw [h2]
    exact Option.some.inj h
  | 0, _ :: _, m, acc, L, n, _, h, _ => by cases h
  | k + 1, f :: todo, m, acc, L, n, hm, h, hn => by
    obtain ⟨n, rfl⟩ : ∃ n', n = n' + 1 := ⟨n - 1, by omega⟩
    have h1 : (bif hasB m f then cvF lead k todo m acc else cvF lead k (lead f ++ todo) (setB m f) (f :: acc)) = some L := h
    show (if acc.contains f then P.closureVia n todo acc else P.closureVia n ((P.funcs[f]?).elim [] P.leadsTo ++ todo) (f :: acc)) = L
    cases hb : hasB m f with
    | true =>
      rw [hb, cond_true] at h1
      rw [if_pos (by rw [← hm, hb])]
      exact cvF_ok hl k todo m acc L n hm h1 (by omega)
    | false =>
      rw [hb, cond_false] at h1
      rw [if_neg (by rw [← hm, hb]; exact Bool.false_ne_true), hl]
      refine cvF_ok hl k _ _ _ L n (fun i => ?_) h1 (by omega)
      rw [hasB_set, hm, List.contains_cons, Bool.or_comm]
      congr 1
      by_cases hfi : f = i
      · subst hfi; simp
      · have : (i == f) = false := by simpa using fun h => hfi h.symm
        simp [hfi, this]
theorem clo_of {P : Program} {K : Nat} {T : List (List (List Nat))} (hT : P.funcs.toList.map P.leadsTo = T.flatten) (hf : fitsC K T = true) {f k N : Nat} {L : List Nat}
    (hs : (T.map fun c => (c.map fun l => l.length + 1).sum).sum = N) (hk : Nat.ble k (1 + N) = true) (h : cvF (fun f => (lkC K T f).getD []) k [f] 0 [] = some L) : P.closure f = L := by
  unfold Program.closure
  have h1 : (P.funcs.toList.map fun g => (P.leadsTo g).length + 1).sum = N := by
    have e : (P.funcs.toList.map fun g => (P.leadsTo g).length + 1) = (P.funcs.toList.map P.leadsTo).map fun l => l.length + 1 := by rw [List.map_map]; rfl
    rw [e, hT, ← hs]
    clear hT hf hs h e
    induction T with
    | nil => rfl
    | cons c T ih => rw [List.flatten_cons, List.map_append, List.sum_append, ih]; rfl
  rw [h1]
  refine cvF_ok (lead := fun f => (lkC K T f).getD []) (fun g => ?_) k [f] 0 [] L _ (fun i => by rw [hasB_zero]; rfl) h (Nat.le_of_ble_eq_true hk)
  show _ = (lkC K T g).getD []
  rw [lkC_eq K T g hf, ← hT, List.getElem?_map, Array.getElem?_toList]
  cases P.funcs[g]? <;> rfl
/-- by types -/
def mapR (P : Program) (t : TypeId) : Bool := match P.underlying t with | some (.map _ e) => decide (e < P.types.size) | _ => true
theorem mapsRowed_eq (P : Program) : mapsRowed P = (List.range P.types.size).all (mapR P) := rfl
def hearR (fn : Func) : Bool := (Stop.rowOf fn).isNone || !fn.norace
theorem stopsHeard_eq (P : Program) : P.stopsHeard = P.funcs.toList.all hearR := by
  unfold Program.stopsHeard
  rw [← Array.all_toList]
  rfl
def laterR (fn : Func) : Bool := fn.body.isNone && (fn.name == "runtime.SetFinalizer" || fn.name == "runtime.AddCleanup" || fn.origin == "runtime.AddCleanup")
theorem laysLater_eq (P : Program) : P.laysLater = P.funcs.toList.any laterR := by
  unfold Program.laysLater
  rw [← Array.any_toList]
  rfl
def reflR (fn : Func) : Bool := fn.body.isNone && (opensWith (nameBytes "reflect.") (nameBytes fn.name) || opensWith (nameBytes "(reflect.") (nameBytes fn.name) || opensWith (nameBytes "(*reflect.") (nameBytes fn.name))
theorem bearsReflect_eq (P : Program) : P.bearsReflect = P.funcs.toList.any reflR := rfl
def doorR (fn : Func) : Bool := fn.body.isNone && opensWith (nameBytes "var's door: ") (nameBytes fn.name)
theorem doorRows_eq (P : Program) : P.doorRows = (P.funcs.toList.filter doorR).map fun fn => (nameBytes fn.name).reverse := rfl
theorem inPlaceOf_append (P : Program) (a b : List FuncId) : P.inPlaceOf (a ++ b) = P.inPlaceOf a ++ P.inPlaceOf b := List.filterMap_append
def gloR (P : Program) (g : FuncId) : List Nat := ((P.funcs[g]?).bind (·.body)).elim [] Code.globalsNamed
def earR (P : Program) (g : FuncId) : Option String := (P.funcs[g]?).bind fun fn => if fn.body.isNone then entryReads.lookup fn.name else none
theorem varsOf_eq (P : Program) (L : List FuncId) : P.varsOf L = (((L.flatMap (gloR P)).eraseDups).filterMap (fun g => (P.globals[g]?).map (·.name)) ++ L.filterMap (earR P)).eraseDups := rfl
def unfR (P : Program) (g : FuncId) : Bool := (P.funcs[g]?).any fun fn => match fn.body with | some c => c.unfollowed | none => entryCalls fn
theorem unfollowed_eq (P : Program) (f : FuncId) : P.unfollowed f = (P.closure f).any (unfR P) := rfl

/-! ### the functions, 50 at a time -/
noncomputable def fc0 : List Func := [Tryz.f0, Tryz.f1, Tryz.f2, Tryz.f3, Tryz.f4, Tryz.f5, Tryz.f6, Tryz.f7, Tryz.f8, Tryz.f9, Tryz.f10, Tryz.f11, Tryz.f12, Tryz.f13, Tryz.f14, Tryz.f15, Tryz.f16, Tryz.f17, 
  Tryz.f18, Tryz.f19, Tryz.f20, Tryz.f21, Tryz.f22, Tryz.f23, Tryz.f24, Tryz.f25, Tryz.f26, Tryz.f27, Tryz.f28, Tryz.f29, Tryz.f30, Tryz.f31, Tryz.f32, Tryz.f33, 
  Tryz.f34, Tryz.f35, Tryz.f36, Tryz.f37, Tryz.f38, Tryz.f39, Tryz.f40, Tryz.f41, Tryz.f42, Tryz.f43, Tryz.f44, Tryz.f45, Tryz.f46, Tryz.f47, Tryz.f48, Tryz.f49]
noncomputable def fc1 : List Func := [Tryz.f50, Tryz.f51, Tryz.f52, Tryz.f53, Tryz.f54, Tryz.f55, Tryz.f56, Tryz.f57, Tryz.f58, Tryz.f59, Tryz.f60, Tryz.f61, Tryz.f62, Tryz.f63, Tryz.f64, Tryz.f65, 
  Tryz.f66, Tryz.f67, Tryz.f68, Tryz.f69, Tryz.f70, Tryz.f71, Tryz.f72, Tryz.f73, Tryz.f74, Tryz.f75, Tryz.f76, Tryz.f77, Tryz.f78, Tryz.f79, Tryz.f80, Tryz.f81, 
  Tryz.f82, Tryz.f83, Tryz.f84, Tryz.f85, Tryz.f86, Tryz.f87, Tryz.f88, Tryz.f89, Tryz.f90, Tryz.f91, Tryz.f92, Tryz.f93, Tryz.f94, Tryz.f95, Tryz.f96, Tryz.f97, 
  Tryz.f98, Tryz.f99]
noncomputable def fc2 : List Func := [Tryz.f100, Tryz.f101, Tryz.f102, Tryz.f103, Tryz.f104, Tryz.f105, Tryz.f106, Tryz.f107, Tryz.f108, Tryz.f109, Tryz.f110, Tryz.f111, Tryz.f112, Tryz.f113, Tryz.f114, 
  Tryz.f115, Tryz.f116, Tryz.f117, Tryz.f118, Tryz.f119, Tryz.f120, Tryz.f121, Tryz.f122, Tryz.f123, Tryz.f124, Tryz.f125, Tryz.f126, Tryz.f127, Tryz.f128, Tryz.f129, 
  Tryz.f130, Tryz.f131, Tryz.f132, Tryz.f133, Tryz.f134, Tryz.f135, Tryz.f136, Tryz.f137, Tryz.f138, Tryz.f139, Tryz.f140, Tryz.f141, Tryz.f142, Tryz.f143, Tryz.f144, 
  Tryz.f145, Tryz.f146, Tryz.f147, Tryz.f148, Tryz.f149]
noncomputable def fc3 : List Func := [Tryz.f150, Tryz.f151, Tryz.f152, Tryz.f153, Tryz.f154, Tryz.f155, Tryz.f156, Tryz.f157, Tryz.f158, Tryz.f159, Tryz.f160, Tryz.f161, Tryz.f162, Tryz.f163, Tryz.f164, 
  Tryz.f165, Tryz.f166, Tryz.f167, Tryz.f168, Tryz.f169, Tryz.f170, Tryz.f171, Tryz.f172, Tryz.f173, Tryz.f174, Tryz.f175, Tryz.f176, Tryz.f177, Tryz.f178, Tryz.f179, 
  Tryz.f180, Tryz.f181, Tryz.f182, Tryz.f183, Tryz.f184, Tryz.f185, Tryz.f186, Tryz.f187, Tryz.f188, Tryz.f189, Tryz.f190, Tryz.f191, Tryz.f192, Tryz.f193, Tryz.f194, 
  Tryz.f195, Tryz.f196, Tryz.f197, Tryz.f198, Tryz.f199]
noncomputable def fc4 : List Func := [Tryz.f200, Tryz.f201, Tryz.f202, Tryz.f203, Tryz.f204, Tryz.f205, Tryz.f206, Tryz.f207, Tryz.f208, Tryz.f209, Tryz.f210, Tryz.f211, Tryz.f212, Tryz.f213, Tryz.f214, 
  Tryz.f215, Tryz.f216, Tryz.f217, Tryz.f218, Tryz.f219, Tryz.f220, Tryz.f221, Tryz.f222, Tryz.f223, Tryz.f224, Tryz.f225, Tryz.f226, Tryz.f227, Tryz.f228, Tryz.f229, 
  Tryz.f230, Tryz.f231, Tryz.f232, Tryz.f233, Tryz.f234, Tryz.f235, Tryz.f236, Tryz.f237, Tryz.f238, Tryz.f239, Tryz.f240, Tryz.f241, Tryz.f242, Tryz.f243, Tryz.f244, 
  Tryz.f245, Tryz.f246, Tryz.f247, Tryz.f248, Tryz.f249]
noncomputable def fc5 : List Func := [Tryz.f250, Tryz.f251, Tryz.f252, Tryz.f253, Tryz.f254, Tryz.f255, Tryz.f256, Tryz.f257, Tryz.f258, Tryz.f259, Tryz.f260, Tryz.f261, Tryz.f262, Tryz.f263, Tryz.f264, 
  Tryz.f265, Tryz.f266, Tryz.f267, Tryz.f268, Tryz.f269, Tryz.f270, Tryz.f271, Tryz.f272, Tryz.f273, Tryz.f274, Tryz.f275, Tryz.f276, Tryz.f277, Tryz.f278, Tryz.f279, 
  Tryz.f280, Tryz.f281, Tryz.f282, Tryz.f283, Tryz.f284, Tryz.f285, Tryz.f286, Tryz.f287, Tryz.f288, Tryz.f289, Tryz.f290, Tryz.f291, Tryz.f292, Tryz.f293, Tryz.f294, 
  Tryz.f295, Tryz.f296, Tryz.f297, Tryz.f298, Tryz.f299]
noncomputable def fc6 : List Func := [Tryz.f300, Tryz.f301, Tryz.f302, Tryz.f303, Tryz.f304, Tryz.f305, Tryz.f306, Tryz.f307, Tryz.f308, Tryz.f309, Tryz.f310, Tryz.f311, Tryz.f312, Tryz.f313, Tryz.f314, 
  Tryz.f315, Tryz.f316, Tryz.f317, Tryz.f318, Tryz.f319, Tryz.f320, Tryz.f321, Tryz.f322, Tryz.f323, Tryz.f324, Tryz.f325, Tryz.f326, Tryz.f327, Tryz.f328, Tryz.f329, 
  Tryz.f330, Tryz.f331, Tryz.f332, Tryz.f333, Tryz.f334, Tryz.f335, Tryz.f336, Tryz.f337, Tryz.f338, Tryz.f339, Tryz.f340, Tryz.f341, Tryz.f342, Tryz.f343, Tryz.f344, 
  Tryz.f345, Tryz.f346, Tryz.f347, Tryz.f348, Tryz.f349]
noncomputable def fc7 : List Func := [Tryz.f350, Tryz.f351, Tryz.f352, Tryz.f353, Tryz.f354, Tryz.f355, Tryz.f356, Tryz.f357, Tryz.f358, Tryz.f359, Tryz.f360, Tryz.f361, Tryz.f362, Tryz.f363, Tryz.f364, 
  Tryz.f365, Tryz.f366, Tryz.f367, Tryz.f368, Tryz.f369, Tryz.f370, Tryz.f371, Tryz.f372, Tryz.f373, Tryz.f374, Tryz.f375, Tryz.f376, Tryz.f377, Tryz.f378, Tryz.f379, 
  Tryz.f380, Tryz.f381, Tryz.f382, Tryz.f383, Tryz.f384, Tryz.f385, Tryz.f386, Tryz.f387, Tryz.f388, Tryz.f389, Tryz.f390, Tryz.f391, Tryz.f392, Tryz.f393, Tryz.f394, 
  Tryz.f395, Tryz.f396, Tryz.f397, Tryz.f398, Tryz.f399]
noncomputable def fc8 : List Func := [Tryz.f400, Tryz.f401, Tryz.f402, Tryz.f403, Tryz.f404, Tryz.f405, Tryz.f406, Tryz.f407, Tryz.f408, Tryz.f409, Tryz.f410, Tryz.f411, Tryz.f412, Tryz.f413, Tryz.f414, 
  Tryz.f415, Tryz.f416, Tryz.f417, Tryz.f418, Tryz.f419, Tryz.f420, Tryz.f421, Tryz.f422, Tryz.f423, Tryz.f424, Tryz.f425, Tryz.f426, Tryz.f427, Tryz.f428, Tryz.f429, 
  Tryz.f430, Tryz.f431, Tryz.f432, Tryz.f433, Tryz.f434, Tryz.f435, Tryz.f436, Tryz.f437, Tryz.f438, Tryz.f439, Tryz.f440, Tryz.f441, Tryz.f442, Tryz.f443, Tryz.f444, 
  Tryz.f445, Tryz.f446, Tryz.f447, Tryz.f448, Tryz.f449]
noncomputable def fc9 : List Func := [Tryz.f450, Tryz.f451, Tryz.f452, Tryz.f453, Tryz.f454, Tryz.f455, Tryz.f456, Tryz.f457, Tryz.f458, Tryz.f459, Tryz.f460, Tryz.f461, Tryz.f462, Tryz.f463, Tryz.f464, 
  Tryz.f465, Tryz.f466, Tryz.f467, Tryz.f468, Tryz.f469, Tryz.f470, Tryz.f471, Tryz.f472, Tryz.f473, Tryz.f474, Tryz.f475, Tryz.f476, Tryz.f477, Tryz.f478, Tryz.f479, 
  Tryz.f480, Tryz.f481, Tryz.f482, Tryz.f483, Tryz.f484, Tryz.f485, Tryz.f486, Tryz.f487, Tryz.f488, Tryz.f489, Tryz.f490, Tryz.f491, Tryz.f492, Tryz.f493, Tryz.f494, 
  Tryz.f495, Tryz.f496, Tryz.f497, Tryz.f498, Tryz.f499]
noncomputable def fc10 : List Func := [Tryz.f500, Tryz.f501, Tryz.f502, Tryz.f503, Tryz.f504, Tryz.f505, Tryz.f506, Tryz.f507, Tryz.f508, Tryz.f509, Tryz.f510, Tryz.f511, Tryz.f512, Tryz.f513, Tryz.f514, 
  Tryz.f515, Tryz.f516, Tryz.f517, Tryz.f518, Tryz.f519, Tryz.f520, Tryz.f521, Tryz.f522, Tryz.f523, Tryz.f524, Tryz.f525, Tryz.f526, Tryz.f527, Tryz.f528, Tryz.f529, 
  Tryz.f530, Tryz.f531, Tryz.f532, Tryz.f533, Tryz.f534, Tryz.f535, Tryz.f536, Tryz.f537, Tryz.f538, Tryz.f539, Tryz.f540, Tryz.f541, Tryz.f542, Tryz.f543, Tryz.f544, 
  Tryz.f545, Tryz.f546, Tryz.f547, Tryz.f548, Tryz.f549]
noncomputable def fc11 : List Func := [Tryz.f550, Tryz.f551, Tryz.f552, Tryz.f553, Tryz.f554, Tryz.f555, Tryz.f556, Tryz.f557, Tryz.f558, Tryz.f559, Tryz.f560, Tryz.f561, Tryz.f562, Tryz.f563, Tryz.f564, 
  Tryz.f565, Tryz.f566, Tryz.f567, Tryz.f568, Tryz.f569, Tryz.f570, Tryz.f571, Tryz.f572, Tryz.f573, Tryz.f574, Tryz.f575, Tryz.f576, Tryz.f577, Tryz.f578, Tryz.f579, 
  Tryz.f580, Tryz.f581, Tryz.f582, Tryz.f583, Tryz.f584, Tryz.f585, Tryz.f586, Tryz.f587, Tryz.f588, Tryz.f589, Tryz.f590, Tryz.f591, Tryz.f592, Tryz.f593, Tryz.f594, 
  Tryz.f595, Tryz.f596, Tryz.f597, Tryz.f598, Tryz.f599]
noncomputable def fc12 : List Func := [Tryz.f600, Tryz.f601, Tryz.f602, Tryz.f603, Tryz.f604, Tryz.f605, Tryz.f606, Tryz.f607, Tryz.f608, Tryz.f609, Tryz.f610, Tryz.f611, Tryz.f612, Tryz.f613, Tryz.f614, 
  Tryz.f615, Tryz.f616, Tryz.f617, Tryz.f618, Tryz.f619, Tryz.f620, Tryz.f621, Tryz.f622, Tryz.f623, Tryz.f624, Tryz.f625, Tryz.f626, Tryz.f627, Tryz.f628, Tryz.f629, 
  Tryz.f630, Tryz.f631, Tryz.f632, Tryz.f633, Tryz.f634, Tryz.f635, Tryz.f636, Tryz.f637, Tryz.f638, Tryz.f639, Tryz.f640, Tryz.f641, Tryz.f642, Tryz.f643, Tryz.f644, 
  Tryz.f645, Tryz.f646, Tryz.f647, Tryz.f648, Tryz.f649]
noncomputable def fc13 : List Func := [Tryz.f650, Tryz.f651, Tryz.f652, Tryz.f653, Tryz.f654, Tryz.f655, Tryz.f656, Tryz.f657, Tryz.f658, Tryz.f659, Tryz.f660, Tryz.f661, Tryz.f662, Tryz.f663, Tryz.f664, 
  Tryz.f665, Tryz.f666, Tryz.f667, Tryz.f668, Tryz.f669, Tryz.f670, Tryz.f671, Tryz.f672, Tryz.f673, Tryz.f674, Tryz.f675, Tryz.f676, Tryz.f677, Tryz.f678, Tryz.f679, 
  Tryz.f680, Tryz.f681, Tryz.f682, Tryz.f683, Tryz.f684, Tryz.f685, Tryz.f686, Tryz.f687, Tryz.f688, Tryz.f689, Tryz.f690, Tryz.f691, Tryz.f692, Tryz.f693, Tryz.f694, 
  Tryz.f695, Tryz.f696, Tryz.f697, Tryz.f698, Tryz.f699]
noncomputable def fc14 : List Func := [Tryz.f700, Tryz.f701, Tryz.f702, Tryz.f703, Tryz.f704, Tryz.f705, Tryz.f706, Tryz.f707, Tryz.f708, Tryz.f709, Tryz.f710, Tryz.f711, Tryz.f712, Tryz.f713, Tryz.f714, 
  Tryz.f715, Tryz.f716, Tryz.f717, Tryz.f718, Tryz.f719, Tryz.f720, Tryz.f721, Tryz.f722, Tryz.f723, Tryz.f724, Tryz.f725, Tryz.f726, Tryz.f727, Tryz.f728, Tryz.f729, 
  Tryz.f730, Tryz.f731, Tryz.f732, Tryz.f733, Tryz.f734, Tryz.f735, Tryz.f736, Tryz.f737, Tryz.f738, Tryz.f739, Tryz.f740, Tryz.f741, Tryz.f742, Tryz.f743, Tryz.f744, 
  Tryz.f745]
noncomputable def fcs : List (List Func) := [fc0, fc1, fc2, fc3, fc4, fc5, fc6, fc7, fc8, fc9, fc10, fc11, fc12, fc13, fc14]
theorem fc_all : Tryz.checked.prog.funcs.toList = fcs.flatten := by kernel_rfl
def ld0 : List (List Nat) := [[], [], [1], [4, 5, 6, 7, 8, 9, 10, 11, 12, 13, 14], [15, 16, 17], [18, 19, 20, 21], [15, 17, 22], [18, 23], [24, 25], [26, 27], [], [], [], [28, 5], 
  [29, 28, 5, 30, 5, 30, 5, 30, 5, 31, 30, 5, 30, 5, 8, 9], [18], [17], [], [], [32, 15, 15], [33, 34, 35, 36, 37, 38, 39, 40, 41, 42, 43, 44], [45, 46], 
  [47, 48], [49, 50], [], [], [], [], [52, 53, 54, 56, 55], [], [], [7, 5, 12, 5], [], [16, 17, 57, 58, 59, 60], [61, 16, 17, 62, 63], [64], [65], 
  [16, 17, 66, 63], [17, 67], [16, 17, 68], [16, 17, 68, 22, 69, 67, 56, 70, 46, 67, 71, 72], [16, 17, 73, 63], [16, 17, 74], 
  [16, 16, 17, 71, 58, 76, 75, 17, 59, 76, 78, 77], [17, 79, 80, 81], [82], [47], [], [], [83, 84]]
def ld1 : List (List Nat) := [[51], [], [56, 85], [], [], [85, 86, 70], [], [82, 87, 89, 90, 91, 92], [], [93], [94, 95], [96, 97, 51], [82, 98, 45, 99, 100, 101, 102, 103, 104], 
  [105], [61], [96, 106, 107], [82, 108, 45, 109, 110, 111, 112], [47], [22, 113, 115, 114], [116, 117, 118, 119, 120, 121], [80, 85, 122, 123], [], 
  [59, 76], [82, 124, 100, 90, 126, 127], [82, 128, 90, 129, 130], [131, 76, 120, 132, 76, 134, 133, 135, 76], [131], 
  [82, 136, 45, 137, 138, 139, 140, 123, 141, 142], [82, 143, 90, 144], [47], [145, 146], [145, 147, 148], [], [], [], [], 
  [116, 113, 150, 152, 153, 149], [88], [125, 46], [], [45, 71], [], [155, 156, 157, 158, 159, 160, 161, 162, 163, 164, 165, 166], [131, 167], [], [], 
  [83, 49], [], [88], [168, 169, 170, 171, 173, 174, 172, 176, 177]]
def ld2 : List (List Nat) := [[], [178, 179, 127, 180], [181, 182, 183, 185, 184, 185, 184, 185, 184, 180], [186, 76, 75, 111, 112], [], [83, 187, 187, 106, 107], [83], [51], [88], 
  [76, 75, 188, 114, 189, 180], [190, 191, 192], [193], [195, 196, 194, 127], [47, 198, 197, 199], [200, 201], [202], [80], [80, 203], [132, 79, 204], 
  [205], [], [120, 132, 206, 76, 80, 134, 133, 135], [], [69, 93, 142, 207, 208, 209, 93, 210, 208, 130, 211, 208, 209, 212, 213, 208, 208, 209], [125], 
  [], [214, 59, 215, 76], [216], [88], [217, 218, 217, 208, 209, 59, 76, 219, 220, 221, 223, 225, 227, 229, 231], [213, 209, 233], [], [234], 
  [145, 147, 236, 235], [120, 76, 76, 237], [120, 132, 238], [88], [239, 240], [76, 75, 241], 
  [219, 167, 69, 242, 93, 76, 230, 243, 244, 245, 246, 248, 247, 249, 93, 230], [68, 69, 93, 141, 142], [46, 69], [213], [125], [250, 251, 252], 
  [47, 253, 254, 79], [], [], [], []]
def ld3 : List (List Nat) := [[132, 151], [47, 253, 79, 255, 235], [151], [154], [167, 256, 258, 259, 149], [195, 183, 260, 261], [262, 263], [264, 265], [266], [267], [268], [269], 
  [270, 183, 75, 271], [272, 273], [271], [274, 275, 276], [277], [], [], [278], [279], [280, 168], [281], [171], [175], [171, 280], [282, 283], [281], 
  [59], [284, 177, 59, 285, 286, 215, 76], [287, 127], [], [284, 177, 286, 59, 285], [59], [288], [183], [214, 177, 59, 76, 215, 289, 219, 290, 291], [], 
  [292], [284], [], [293, 209, 294], [296, 295], [190, 191, 110, 297], [214, 76, 286, 59, 215, 76], [76, 217, 298], [218, 299, 300], [301, 302], [303], 
  []]
def ld4 : List (List Nat) := [[304], [296, 305], [], [170, 306, 171, 171, 171, 171, 171, 171, 171, 171, 283, 171, 283, 306, 282, 278, 219, 307, 308], [132, 80, 309], [51, 310], 
  [79], [69, 93, 312, 313, 76, 222], [293], [314], [208, 208, 209, 93, 232], [208], [59], [], [], [], [177, 315, 317, 172, 278, 316], [190], 
  [190, 319, 320], [321], [76, 75], [76, 222], [293, 209, 294, 322], [76, 224], [131, 76, 219, 76, 323, 325, 149], [226], [131, 76, 326, 76], [228], 
  [293, 209, 294, 322], [93, 230], [131, 327, 154], [232], [208, 329, 328, 277], [], [330], [], [148], [331, 331], [145, 332, 235], [], [333, 335, 334], 
  [314, 336, 337, 238], [59, 338, 76], [294, 339, 114], [], [340, 341, 238], [294], [], [], 
  [131, 219, 338, 76, 321, 342, 343, 344, 321, 132, 79, 345, 121, 149]]
def ld5 : List (List Nat) := [[314], [80, 347], [348], [], [], [], [257, 133], [331, 331, 331, 279, 331, 331, 279, 278, 331], [238], [], [239, 349], [190, 218, 299], 
  [351, 353, 350, 352], [358, 208, 355, 359], [360, 350, 352], [358, 208, 361, 359], [363], [363], [364, 350, 352], [367, 368, 369, 350], 
  [372, 350, 352], [185, 375], [376, 377, 350], [190], [239], [333, 300], [239, 275, 379, 381, 380, 383, 209, 226, 385], [239, 387, 388, 386], 
  [389, 390], [], [282], [], [], [282], [], [], [131], [284, 286, 391, 59, 392], [393, 394], [311], [119, 75, 224], [131, 76, 119, 76], [], [], 
  [131, 76, 311], [395, 396, 397, 398, 399, 400, 401, 402, 403, 295, 295], [404, 405], [228, 406], [293], [329, 408, 407]]
def ld6 : List (List Nat) := [[], [409], [296, 410], [], [], [411, 412, 413, 414, 415, 416, 417, 418, 419, 305, 305], [280], [420], [], [168, 168], [311], [421, 422, 170, 176, 423], 
  [80, 59, 79, 151], [209, 76], [], [316], [], [318], [279], [293, 209, 93], [293], [425, 424], [426, 427, 428], [132, 324], [79, 346, 151], [154], 
  [423, 422, 316, 316, 429, 316], [], [430, 144, 431, 432, 433], [293], [434, 435, 436, 437], [316], [146], [], [438, 192], [439], [314, 440, 114], 
  [441, 76, 75, 133], [], [442], [443], [441, 444, 445, 133], [132, 324], [154], [], [132, 346], [145, 446, 235], [168, 448], [337], [333, 388, 407]]
def ld7 : List (List Nat) := [[239, 367], [], [], [354, 355, 356, 357], [449, 450], [451, 452, 454, 453], [455], [383, 456], [190, 218], [455, 457, 456], [354, 361, 362], 
  [458, 459, 453], [460, 461, 462], [351, 464, 465, 350], [365, 366], [469], [470], [239, 471], [], [370, 371], [333, 469, 472, 473], 
  [470, 366, 474, 475, 476], [373, 374], [469, 472, 473], [477], [478, 394], [], [378, 374], [469, 472, 473], [479, 481, 480], [484], [383, 384, 382], 
  [485, 486, 486], [487], [333, 488], [431, 489, 490], [314, 76, 491, 192, 423, 423, 492, 493, 494, 495, 241, 496], [333], [333, 497, 192], [498], [], 
  [131, 311, 51], [499, 247, 215], [], [500], [401], [501, 501], [502, 503], [504, 504, 504, 505], []]
def ld8 : List (List Nat) := [[401, 401, 401], [506, 506], [401, 401], [401, 401, 401, 401], [], [], [190], [491, 192, 507], [293, 508, 334], [], 
  [509, 510, 511, 512, 513, 514, 515, 516, 517, 410, 410], [417], [518, 518], [502, 503], [519, 519, 519, 520], [], [417, 417, 417], [521, 521], 
  [417, 417], [417, 417, 417, 417], [], [168, 168, 168, 429], [522, 523, 524, 524, 525, 526, 527, 528], [529, 530, 531], [247], [], 
  [314, 423, 532, 144, 441, 532], [533, 534, 535, 114, 144, 441, 536, 532], [], [278], [209], [314], [537, 539, 538, 541, 542, 540], [], [], 
  [405, 543, 544], [], [545, 546], [547], [], [548], [168], [], [], [316, 448, 316], [80], [447], [], [278], [469, 491]]
def ld9 : List (List Nat) := [[469, 472], [], [], [549, 550], [], [551, 552, 553, 554, 483], [555, 556], [487], [], [], [356, 357], [296, 557], [463], [558, 558], [], 
  [466, 467, 468], [559, 560], [354, 355, 356, 383, 561, 357], [562, 431, 563, 564, 565], [333], [], [469], [192], [491, 566], [], [], [], [371], 
  [393, 569, 568, 567], [], [553], [482, 483], [570, 571], [170, 171, 171, 175, 175, 176, 574], [], [], [], [575, 576], [474], 
  [577, 578, 549, 579, 550, 580, 581], [582, 552, 535, 114, 201, 584, 583], [], [226], [], [226], [76, 75], [93, 230], [472], [], []]
def ld10 : List (List Nat) := [[587, 587, 586], [401, 401], [296], [], [505], [588, 588, 588], [], [], [589], [515], [590, 590], [502, 503], [591, 591, 591, 592], [], 
  [515, 515, 515], [558, 558], [515, 515], [515, 515, 515, 515], [417, 417], [520], [593, 593, 593], [], [594, 595, 595, 596], [594, 595, 596], 
  [594, 597], [594], [594, 597], [594, 594], [594, 594], [], [598, 598, 599, 600, 601, 600, 601], [602, 603], [250, 444, 252], [209, 423], [575], [604], 
  [], [], [570, 605, 606, 607, 573, 608, 609, 610, 608], [608], [], [539], [], [], [], [], [611, 612], [], [], [613, 614, 482, 615, 616, 618]]
def ld11 : List (List Nat) := [[613, 614, 482, 615, 579, 619, 620], [], [], [621, 539, 613, 614, 482, 483], [570, 622, 279], [], [623, 623], 
  [624, 625, 626, 627, 628, 629, 630, 631, 557, 557], [], [470], [470, 632], [633, 634], [469, 472], [636, 552, 637, 583], [639, 640, 641, 480], 
  [644, 578, 549, 579, 550, 580, 645, 646], [533, 534, 535, 114, 431, 647, 209, 226, 144, 536, 532], [648, 649, 650], [651], [652], [573, 609, 572], 
  [572, 573, 279], [653], [654], [], [], [], [], [452], [655], [], [570, 622, 610, 572, 573, 608, 608], [], [553], [585], [581, 643], [], [506, 506], 
  [401], [], [515, 515], [592], [656, 656, 656], [417], [171, 316], [594], [175, 318], [595, 594, 283, 306, 594], [], []]
def ld12 : List (List Nat) := [[], [], [], [], [], [], [609, 573, 607, 573], [572, 573, 573], [316], [654], [608, 608], [], [], [570], [], [578], [617], [463, 657, 657, 586], 
  [296, 658], [296, 659], [617], [], [573, 572], [488, 635, 486], [], [660, 660], [502, 503], [661, 661, 661, 662], [], [], [], [], [663], [], 
  [488, 635, 486], [664], [], [554, 316, 638], [570, 605, 622], [], [574, 316, 316, 318, 318, 279], [642, 643, 538], [570, 606], 
  [570, 573, 482, 610, 608], [], [665, 538, 666, 538], [667, 665, 279, 668, 539, 665, 538, 666, 655, 645, 669, 670, 671, 672, 540], 
  [250, 251, 252, 674, 673], [], [296, 675]]
def ld13 : List (List Nat) := [[500], [], [], [654, 654], [168], [617], [515], [521, 521], [676, 677, 678, 679, 680, 681, 682, 683, 658, 658], 
  [684, 685, 686, 687, 688, 689, 690, 691, 659, 659], [], [662], [692, 692, 692], [], [693, 694, 488], [578, 279], [581, 643], [], [538, 643, 538], [], 
  [], [], [], [695, 252, 226, 444], [], [696, 697, 698, 699, 700, 701, 702, 703, 675, 675], [], [704, 704], [502, 503], [705, 705, 705, 706], [], [], [], 
  [], [], [707, 707], [502, 503], [708, 708, 708, 709], [], [], [], [], [], [401, 710, 710], [401], [423, 76, 711], [], [712, 712], [502, 503], 
  [713, 713, 713, 714]]
def ld14 : List (List Nat) := [[], [], [], [], [], [706], [715, 715, 715], [], [709], [716, 716, 716], [], [326], [], [714], [717, 717, 717], [], [], [], [], [], [], [], [], [], [], 
  [], [], [], [], [], [], [], [], [], [], [], [250, 251, 737, 252, 674, 673], [279], [], [], [], [], [], [], [], []]
theorem ld0_eq : fc0.map Tryz.checked.prog.leadsTo = ld0 := by kernel_rfl
theorem ld1_eq : fc1.map Tryz.checked.prog.leadsTo = ld1 := by kernel_rfl
theorem ld2_eq : fc2.map Tryz.checked.prog.leadsTo = ld2 := by kernel_rfl
theorem ld3_eq : fc3.map Tryz.checked.prog.leadsTo = ld3 := by kernel_rfl
theorem ld4_eq : fc4.map Tryz.checked.prog.leadsTo = ld4 := by kernel_rfl
theorem ld5_eq : fc5.map Tryz.checked.prog.leadsTo = ld5 := by kernel_rfl
theorem ld6_eq : fc6.map Tryz.checked.prog.leadsTo = ld6 := by kernel_rfl
theorem ld7_eq : fc7.map Tryz.checked.prog.leadsTo = ld7 := by kernel_rfl
theorem ld8_eq : fc8.map Tryz.checked.prog.leadsTo = ld8 := by kernel_rfl
theorem ld9_eq : fc9.map Tryz.checked.prog.leadsTo = ld9 := by kernel_rfl
theorem ld10_eq : fc10.map Tryz.checked.prog.leadsTo = ld10 := by kernel_rfl
theorem ld11_eq : fc11.map Tryz.checked.prog.leadsTo = ld11 := by kernel_rfl
theorem ld12_eq : fc12.map Tryz.checked.prog.leadsTo = ld12 := by kernel_rfl
theorem ld13_eq : fc13.map Tryz.checked.prog.leadsTo = ld13 := by kernel_rfl
theorem ld14_eq : fc14.map Tryz.checked.prog.leadsTo = ld14 := by kernel_rfl
def lds : List (List (List Nat)) := [ld0, ld1, ld2, ld3, ld4, ld5, ld6, ld7, ld8, ld9, ld10, ld11, ld12, ld13, ld14]
theorem ld_all : Tryz.checked.prog.funcs.toList.map Tryz.checked.prog.leadsTo = lds.flatten := by
  rw [fc_all, List.map_flatten]
  show ([fc0.map Tryz.checked.prog.leadsTo, fc1.map Tryz.checked.prog.leadsTo, fc2.map Tryz.checked.prog.leadsTo, fc3.map Tryz.checked.prog.leadsTo, fc4.map Tryz.checked.prog.leadsTo, fc5.map Tryz.checked.prog.leadsTo, fc6.map Tryz.checked.prog.leadsTo, fc7.map Tryz.checked.prog.leadsTo, fc8.map Tryz.checked.prog.leadsTo, fc9.map Tryz.checked.prog.leadsTo, fc10.map Tryz.checked.prog.leadsTo, fc11.map Tryz.checked.prog.leadsTo, fc12.map Tryz.checked.prog.leadsTo, fc13.map Tryz.checked.prog.leadsTo, fc14.map Tryz.checked.prog.leadsTo]).flatten = _
  rw [ld0_eq, ld1_eq, ld2_eq, ld3_eq, ld4_eq, ld5_eq, ld6_eq, ld7_eq, ld8_eq, ld9_eq, ld10_eq, ld11_eq, ld12_eq, ld13_eq, ld14_eq]
  all_goals rfl
def cl0 : List Nat := [3, 4, 15, 18, 16, 17, 5, 19, 32, 20, 33, 57, 82, 87, 88, 125, 46, 47, 89, 90, 45, 71, 91, 92, 155, 195, 76, 131, 217, 190, 298, 293, 183, 59, 93, 167, 
  260, 239, 349, 333, 388, 497, 472, 192, 296, 404, 405, 295, 395, 401, 506, 396, 501, 397, 502, 503, 398, 504, 505, 588, 399, 400, 402, 403, 407, 491, 
  507, 261, 218, 319, 209, 314, 320, 299, 329, 408, 508, 589, 334, 438]
def cl1 : List Nat := [547, 156, 262, 351, 353, 354, 449, 469, 450, 355, 451, 452, 454, 453, 549, 613, 570, 573, 654, 168, 609, 572, 653, 614, 482, 571, 279, 615, 578, 616, 
  617, 463, 558, 657, 521, 586, 618, 658, 676, 677, 704, 678, 679, 705, 706, 715, 680, 681, 682, 683, 550, 579, 655, 619, 659, 684, 685, 707, 686, 687, 
  708, 709, 716, 688, 689, 690, 691, 620, 356, 455, 551, 552, 553, 621, 539, 608, 316, 483, 170, 171]
def cl2 : List Nat := [280, 282, 175, 176, 283, 574, 554, 622, 357, 383, 487, 575, 576, 456, 555, 556, 623, 488, 474, 635, 664, 693, 710, 694, 486, 350, 367, 471, 352, 263, 
  358, 208, 359, 457, 157, 264, 360, 361, 458, 459, 362, 460, 461, 557, 624, 625, 660, 626, 627, 661, 662, 692, 628, 629, 630, 631, 462, 265, 158, 266, 
  363, 464, 465, 466, 559, 470, 560, 632, 663, 467, 561, 633, 634, 468, 562, 431, 563, 636, 637, 638]
def cl3 : List Nat := [605, 583, 564, 639, 640, 318, 641, 642, 606, 607, 643, 610, 538, 480, 565, 644, 580, 645, 665, 666, 581, 646, 667, 668, 669, 670, 671, 672, 540, 159, 
  267, 160, 268, 364, 365, 366, 161, 269, 368, 369, 370, 473, 566, 533, 423, 529, 530, 598, 599, 600, 601, 531, 602, 603, 534, 535, 604, 114, 200, 304, 
  201, 305, 411, 417, 412, 518, 413, 414, 519, 520, 593, 415, 416, 418, 419, 647, 250, 251, 80, 145]
def cl4 : List Nat := [253, 254, 79, 146, 347, 448, 278, 389, 498, 390, 252, 348, 337, 441, 75, 120, 132, 234, 330, 434, 435, 543, 544, 436, 437, 545, 546, 611, 612, 134, 
  237, 331, 133, 147, 236, 148, 235, 135, 238, 332, 674, 673, 695, 711, 326, 422, 522, 594, 595, 596, 523, 524, 597, 306, 525, 526, 527, 528, 429, 226, 
  444, 144, 536, 532, 371, 475, 476, 162, 270, 372, 373, 374, 477, 271, 185, 375, 478, 393, 569, 652]
def cl5 : List Nat := [568, 651, 567, 648, 649, 675, 696, 697, 712, 698, 699, 713, 714, 717, 700, 701, 702, 703, 650, 500, 587, 394, 163, 272, 376, 377, 378, 273, 164, 165, 
  274, 275, 300, 276, 379, 479, 481, 381, 384, 382, 485, 380, 484, 385, 489, 577, 490, 582, 584, 585, 166, 277, 387, 386, 492, 493, 494, 495, 241, 336, 
  440, 548, 496, 230, 327, 154, 256, 257, 258, 259, 149, 58, 60, 94, 95, 34, 61, 96, 83, 49]
def cl6 : List Nat := [84, 97, 51, 62, 98, 99, 169, 173, 174, 172, 281, 177, 100, 101, 178, 179, 284, 285, 286, 215, 127, 216, 315, 317, 180, 287, 391, 311, 421, 392, 499, 
  247, 102, 181, 182, 184, 288, 103, 186, 214, 289, 219, 321, 425, 424, 290, 119, 205, 310, 224, 323, 324, 346, 446, 447, 151, 255, 325, 291, 111, 193, 
  191, 294, 110, 297, 228, 322, 426, 427, 428, 406, 112, 196, 194, 104, 63, 105, 187, 106, 107]
def cl7 : List Nat := [35, 64, 36, 65, 37, 66, 108, 109, 188, 292, 189, 38, 67, 39, 68, 22, 48, 113, 198, 303, 197, 301, 409, 302, 410, 509, 515, 510, 590, 511, 512, 591, 
  592, 656, 513, 514, 516, 517, 199, 115, 202, 40, 69, 116, 117, 203, 307, 420, 308, 118, 204, 309, 121, 206, 56, 70, 85, 122, 123, 142, 213, 207, 312, 
  313, 222, 210, 232, 328, 430, 432, 537, 541, 542, 433, 130, 233, 211, 212, 72, 41]
def cl8 : List Nat := [73, 124, 126, 42, 74, 128, 129, 220, 221, 223, 225, 227, 229, 231, 43, 78, 143, 77, 136, 137, 240, 335, 439, 138, 139, 242, 338, 243, 339, 442, 244, 
  245, 340, 443, 341, 445, 246, 248, 249, 342, 343, 344, 345, 140, 141, 44, 81, 21, 6, 7, 23, 50, 8, 24, 25, 9, 26, 27, 10, 11, 12, 13, 28, 52, 53, 54, 
  55, 86, 150, 152, 153, 14, 29, 30, 31]
def cls : List (List Nat) := [cl0, cl1, cl2, cl3, cl4, cl5, cl6, cl7, cl8]
theorem ld_fits : fitsC 50 lds = true := by kernel_rfl
theorem ld_sum : (lds.map fun c => (c.map fun l => l.length + 1).sum).sum = 2303 := by kernel_rfl
theorem clo_run : cvF (fun f => (lkC 50 lds f).getD []) 1550 [3] 0 [] = some cls.flatten := by kernel_rfl
theorem clo : Tryz.checked.prog.closure 3 = cls.flatten := clo_of ld_all ld_fits ld_sum (by kernel_rfl) clo_run
/-! ### the facts -/
theorem later0 : fc0.any laterR = false := by kernel_rfl
theorem later1 : fc1.any laterR = false := by kernel_rfl
theorem later2 : fc2.any laterR = false := by kernel_rfl
theorem later3 : fc3.any laterR = false := by kernel_rfl
theorem later4 : fc4.any laterR = false := by kernel_rfl
theorem later5 : fc5.any laterR = false := by kernel_rfl
theorem later6 : fc6.any laterR = false := by kernel_rfl
theorem later7 : fc7.any laterR = false := by kernel_rfl
theorem later8 : fc8.any laterR = false := by kernel_rfl
theorem later9 : fc9.any laterR = false := by kernel_rfl
theorem later10 : fc10.any laterR = false := by kernel_rfl
theorem later11 : fc11.any laterR = false := by kernel_rfl
theorem later12 : fc12.any laterR = false := by kernel_rfl
theorem later13 : fc13.any laterR = false := by kernel_rfl
theorem later14 : fc14.any laterR = false := by kernel_rfl
theorem later : Tryz.checked.prog.laysLater = false := by
  rw [laysLater_eq, fc_all]
  show ([fc0, fc1, fc2, fc3, fc4, fc5, fc6, fc7, fc8, fc9, fc10, fc11, fc12, fc13, fc14] : List (List Func)).flatten.any laterR = false
  simp only [List.any_flatten, List.any_cons, List.any_nil, later0, later1, later2, later3, later4, later5, later6, later7, later8, later9, later10, later11, later12, later13, later14, Bool.or_false]
theorem reflN0 : fc0.any reflR = false := by kernel_rfl
theorem reflN1 : fc1.any reflR = false := by kernel_rfl
theorem reflN2 : fc2.any reflR = false := by kernel_rfl
theorem reflN3 : fc3.any reflR = false := by kernel_rfl
theorem reflN4 : fc4.any reflR = false := by kernel_rfl
theorem reflN5 : fc5.any reflR = false := by kernel_rfl
theorem reflN6 : fc6.any reflR = false := by kernel_rfl
theorem reflN7 : fc7.any reflR = false := by kernel_rfl
theorem reflN8 : fc8.any reflR = false := by kernel_rfl
theorem reflN9 : fc9.any reflR = false := by kernel_rfl
theorem reflN10 : fc10.any reflR = false := by kernel_rfl
theorem reflN11 : fc11.any reflR = false := by kernel_rfl
theorem reflN12 : fc12.any reflR = false := by kernel_rfl
theorem reflN13 : fc13.any reflR = false := by kernel_rfl
theorem reflN14 : fc14.any reflR = false := by kernel_rfl
theorem reflN : Tryz.checked.prog.bearsReflect = false := by
  rw [bearsReflect_eq, fc_all]
  show ([fc0, fc1, fc2, fc3, fc4, fc5, fc6, fc7, fc8, fc9, fc10, fc11, fc12, fc13, fc14] : List (List Func)).flatten.any reflR = false
  simp only [List.any_flatten, List.any_cons, List.any_nil, reflN0, reflN1, reflN2, reflN3, reflN4, reflN5, reflN6, reflN7, reflN8, reflN9, reflN10, reflN11, reflN12, reflN13, reflN14, Bool.or_false]
theorem hear0 : fc0.all hearR = true := by kernel_rfl
theorem hear1 : fc1.all hearR = true := by kernel_rfl
theorem hear2 : fc2.all hearR = true := by kernel_rfl
theorem hear3 : fc3.all hearR = true := by kernel_rfl
theorem hear4 : fc4.all hearR = true := by kernel_rfl
theorem hear5 : fc5.all hearR = true := by kernel_rfl
theorem hear6 : fc6.all hearR = true := by kernel_rfl
theorem hear7 : fc7.all hearR = true := by kernel_rfl
theorem hear8 : fc8.all hearR = true := by kernel_rfl
theorem hear9 : fc9.all hearR = true := by kernel_rfl
theorem hear10 : fc10.all hearR = true := by kernel_rfl
theorem hear11 : fc11.all hearR = true := by kernel_rfl
theorem hear12 : fc12.all hearR = true := by kernel_rfl
theorem hear13 : fc13.all hearR = true := by kernel_rfl
theorem hear14 : fc14.all hearR = true := by kernel_rfl
theorem stopsHeard : Tryz.checked.prog.stopsHeard = true := by
  rw [stopsHeard_eq, fc_all]
  show ([fc0, fc1, fc2, fc3, fc4, fc5, fc6, fc7, fc8, fc9, fc10, fc11, fc12, fc13, fc14] : List (List Func)).flatten.all hearR = true
  simp only [List.all_flatten, List.all_cons, List.all_nil, hear0, hear1, hear2, hear3, hear4, hear5, hear6, hear7, hear8, hear9, hear10, hear11, hear12, hear13, hear14, Bool.and_true]
theorem door0 : fc0.filter doorR = [] := by kernel_rfl
theorem door1 : fc1.filter doorR = [] := by kernel_rfl
theorem door2 : fc2.filter doorR = [] := by kernel_rfl
theorem door3 : fc3.filter doorR = [] := by kernel_rfl
theorem door4 : fc4.filter doorR = [] := by kernel_rfl
theorem door5 : fc5.filter doorR = [] := by kernel_rfl
theorem door6 : fc6.filter doorR = [] := by kernel_rfl
theorem door7 : fc7.filter doorR = [] := by kernel_rfl
theorem door8 : fc8.filter doorR = [] := by kernel_rfl
theorem door9 : fc9.filter doorR = [] := by kernel_rfl
theorem door10 : fc10.filter doorR = [] := by kernel_rfl
theorem door11 : fc11.filter doorR = [] := by kernel_rfl
theorem door12 : fc12.filter doorR = [] := by kernel_rfl
theorem door13 : fc13.filter doorR = [] := by kernel_rfl
theorem door14 : fc14.filter doorR = [Tryz.f740, Tryz.f741, Tryz.f742, Tryz.f743, Tryz.f744] := by kernel_rfl
theorem doors : Tryz.checked.prog.doorRows = ([Tryz.f740, Tryz.f741, Tryz.f742, Tryz.f743, Tryz.f744] : List Func).map fun fn => (nameBytes fn.name).reverse := by
  rw [doorRows_eq, fc_all]
  show (([fc0, fc1, fc2, fc3, fc4, fc5, fc6, fc7, fc8, fc9, fc10, fc11, fc12, fc13, fc14] : List (List Func)).flatten.filter doorR).map _ = _
  simp only [List.flatten_cons, List.flatten_nil, List.filter_append, List.filter_nil, door0, door1, door2, door3, door4, door5, door6, door7, door8, door9, door10, door11, door12, door13, door14]
  all_goals rfl
theorem mayEnter : Tryz.checked.prog.mayEnter = true := by
  unfold Program.mayEnter Program.doorFits
  rw [later, reflN, doors]
  kernel_rfl
theorem mapr0 : (List.range' 0 80).all (mapR Tryz.checked.prog) = true := by kernel_rfl
theorem mapr1 : (List.range' 80 80).all (mapR Tryz.checked.prog) = true := by kernel_rfl
theorem mapr2 : (List.range' 160 80).all (mapR Tryz.checked.prog) = true := by kernel_rfl
theorem mapr3 : (List.range' 240 80).all (mapR Tryz.checked.prog) = true := by kernel_rfl
theorem mapr4 : (List.range' 320 80).all (mapR Tryz.checked.prog) = true := by kernel_rfl
theorem mapr5 : (List.range' 400 80).all (mapR Tryz.checked.prog) = true := by kernel_rfl
theorem mapr6 : (List.range' 480 80).all (mapR Tryz.checked.prog) = true := by kernel_rfl
theorem mapr7 : (List.range' 560 80).all (mapR Tryz.checked.prog) = true := by kernel_rfl
theorem mapr8 : (List.range' 640 80).all (mapR Tryz.checked.prog) = true := by kernel_rfl
theorem mapr9 : (List.range' 720 66).all (mapR Tryz.checked.prog) = true := by kernel_rfl
theorem types_size : Tryz.checked.prog.types.size = 786 := by kernel_rfl
theorem types_range : List.range 786 = List.range' 0 80 ++ List.range' 80 80 ++ List.range' 160 80 ++ List.range' 240 80 ++ List.range' 320 80 ++ List.range' 400 80 ++ List.range' 480 80 ++ List.range' 560 80 ++ List.range' 640 80 ++ List.range' 720 66 := by kernel_rfl
theorem mapsRow : mapsRowed Tryz.checked.prog = true := by
  rw [mapsRowed_eq, types_size, types_range]
  simp only [List.all_append, Bool.and_eq_true]
  exact ⟨⟨⟨⟨⟨⟨⟨⟨⟨mapr0, mapr1⟩, mapr2⟩, mapr3⟩, mapr4⟩, mapr5⟩, mapr6⟩, mapr7⟩, mapr8⟩, mapr9⟩
theorem ldo_0 : (List.range' 0 60).all (rowFine Tryz.checked.prog) = true := by kernel_rfl
theorem ldo_1 : (List.range' 60 60).all (rowFine Tryz.checked.prog) = true := by kernel_rfl
theorem ldo_2 : (List.range' 120 60).all (rowFine Tryz.checked.prog) = true := by kernel_rfl
theorem ldo_3 : (List.range' 180 60).all (rowFine Tryz.checked.prog) = true := by kernel_rfl
theorem ldo_4 : (List.range' 240 60).all (rowFine Tryz.checked.prog) = true := by kernel_rfl
theorem ldo_5 : (List.range' 300 60).all (rowFine Tryz.checked.prog) = true := by kernel_rfl
theorem ldo_6 : (List.range' 360 60).all (rowFine Tryz.checked.prog) = true := by kernel_rfl
theorem ldo_7 : (List.range' 420 60).all (rowFine Tryz.checked.prog) = true := by kernel_rfl
theorem ldo_8 : (List.range' 480 60).all (rowFine Tryz.checked.prog) = true := by kernel_rfl
theorem ldo_9 : (List.range' 540 60).all (rowFine Tryz.checked.prog) = true := by kernel_rfl
theorem ldo_10 : (List.range' 600 60).all (rowFine Tryz.checked.prog) = true := by kernel_rfl
theorem ldo_11 : (List.range' 660 60).all (rowFine Tryz.checked.prog) = true := by kernel_rfl
theorem ldo_12 : (List.range' 720 60).all (rowFine Tryz.checked.prog) = true := by kernel_rfl
theorem ldo_13 : (List.range' 780 6).all (rowFine Tryz.checked.prog) = true := by kernel_rfl
theorem ldo_range : List.range 786 = List.range' 0 60 ++ List.range' 60 60 ++ List.range' 120 60 ++ List.range' 180 60 ++ List.range' 240 60 ++ List.range' 300 60 ++ List.range' 360 60 ++ List.range' 420 60 ++ List.range' 480 60 ++ List.range' 540 60 ++ List.range' 600 60 ++ List.range' 660 60 ++ List.range' 720 60 ++ List.range' 780 6 := by kernel_rfl
theorem ldo_g : (Tryz.checked.prog.globals.all fun g => decide (g.type < Tryz.checked.prog.types.size)) = true := by kernel_rfl
theorem ldo_f : (Tryz.checked.prog.funcs.all fun f => f.params.all fun t => decide (t < Tryz.checked.prog.types.size)) = true := by kernel_rfl
theorem laidOut : laidOutB Tryz.checked.prog = true := by
  unfold laidOutB
  rw [ldo_g, ldo_f, Bool.and_true, Bool.and_true, types_size, ldo_range]
  simp only [List.all_append, Bool.and_eq_true]
  exact ⟨⟨⟨⟨⟨⟨⟨⟨⟨⟨⟨⟨⟨ldo_0, ldo_1⟩, ldo_2⟩, ldo_3⟩, ldo_4⟩, ldo_5⟩, ldo_6⟩, ldo_7⟩, ldo_8⟩, ldo_9⟩, ldo_10⟩, ldo_11⟩, ldo_12⟩, ldo_13⟩
theorem inp0 : Tryz.checked.prog.inPlaceOf cl0 = [] := by kernel_rfl
theorem inp1 : Tryz.checked.prog.inPlaceOf cl1 = [] := by kernel_rfl
theorem inp2 : Tryz.checked.prog.inPlaceOf cl2 = [] := by kernel_rfl
theorem inp3 : Tryz.checked.prog.inPlaceOf cl3 = [] := by kernel_rfl
theorem inp4 : Tryz.checked.prog.inPlaceOf cl4 = [] := by kernel_rfl
theorem inp5 : Tryz.checked.prog.inPlaceOf cl5 = [] := by kernel_rfl
theorem inp6 : Tryz.checked.prog.inPlaceOf cl6 = [] := by kernel_rfl
theorem inp7 : Tryz.checked.prog.inPlaceOf cl7 = [] := by kernel_rfl
theorem inp8 : Tryz.checked.prog.inPlaceOf cl8 = [] := by kernel_rfl
theorem cls_app : cls.flatten = cl0 ++ (cl1 ++ (cl2 ++ (cl3 ++ (cl4 ++ (cl5 ++ (cl6 ++ (cl7 ++ (cl8)))))))) := by
  show ([cl0, cl1, cl2, cl3, cl4, cl5, cl6, cl7, cl8] : List (List Nat)).flatten = _
  simp only [List.flatten_cons, List.flatten_nil, List.append_nil]
theorem inPlace_eq : Tryz.checked.prog.inPlace 3 = Rows.clusterNilRow.inPlace := by
  show Tryz.checked.prog.inPlaceOf (Tryz.checked.prog.closure 3) = _
  rw [clo, cls_app]
  simp only [inPlaceOf_append, inp0, inp1, inp2, inp3, inp4, inp5, inp6, inp7, inp8]
  all_goals kernel_rfl
theorem inPlace : (Rows.clusterNilRow.inPlace == Tryz.checked.prog.inPlace 3) = true := by rw [inPlace_eq]; exact beq_self_eq_true _
theorem glo0 : cl0.flatMap (gloR Tryz.checked.prog) = [] := by kernel_rfl
theorem glo1 : cl1.flatMap (gloR Tryz.checked.prog) = [] := by kernel_rfl
theorem glo2 : cl2.flatMap (gloR Tryz.checked.prog) = [] := by kernel_rfl
theorem glo3 : cl3.flatMap (gloR Tryz.checked.prog) = [] := by kernel_rfl
theorem glo4 : cl4.flatMap (gloR Tryz.checked.prog) = [0, 1, 2] := by kernel_rfl
theorem glo5 : cl5.flatMap (gloR Tryz.checked.prog) = [] := by kernel_rfl
theorem glo6 : cl6.flatMap (gloR Tryz.checked.prog) = [] := by kernel_rfl
theorem glo7 : cl7.flatMap (gloR Tryz.checked.prog) = [] := by kernel_rfl
theorem glo8 : cl8.flatMap (gloR Tryz.checked.prog) = [] := by kernel_rfl
theorem ear0 : cl0.filterMap (earR Tryz.checked.prog) = [] := by kernel_rfl
theorem ear1 : cl1.filterMap (earR Tryz.checked.prog) = [] := by kernel_rfl
theorem ear2 : cl2.filterMap (earR Tryz.checked.prog) = [] := by kernel_rfl
theorem ear3 : cl3.filterMap (earR Tryz.checked.prog) = [] := by kernel_rfl
theorem ear4 : cl4.filterMap (earR Tryz.checked.prog) = [] := by kernel_rfl
theorem ear5 : cl5.filterMap (earR Tryz.checked.prog) = [] := by kernel_rfl
theorem ear6 : cl6.filterMap (earR Tryz.checked.prog) = [] := by kernel_rfl
theorem ear7 : cl7.filterMap (earR Tryz.checked.prog) = [] := by kernel_rfl
theorem ear8 : cl8.filterMap (earR Tryz.checked.prog) = [] := by kernel_rfl
theorem glo_dups : (cls.flatten.flatMap (gloR Tryz.checked.prog)).eraseDups = [0, 1, 2] := by
  rw [cls_app]
  simp only [List.flatMap_append, glo0, glo1, glo2, glo3, glo4, glo5, glo6, glo7, glo8]
  all_goals kernel_rfl
theorem ear_all : cls.flatten.filterMap (earR Tryz.checked.prog) = [] := by
  rw [cls_app]
  simp only [List.filterMap_append, ear0, ear1, ear2, ear3, ear4, ear5, ear6, ear7, ear8]
  all_goals rfl
theorem named_eq : Tryz.checked.prog.varsNamed 3 = Rows.clusterNilRow.named := by
  show Tryz.checked.prog.varsOf (Tryz.checked.prog.closure 3) = _
  rw [clo, varsOf_eq, glo_dups, ear_all]
  kernel_rfl
theorem named : (Rows.clusterNilRow.named == Tryz.checked.prog.varsNamed 3) = true := by rw [named_eq]; exact beq_self_eq_true _
theorem unf : Tryz.checked.prog.unfollowed 3 = true := by
  rw [unfollowed_eq, clo]
  exact List.any_eq_true.2 ⟨5, List.contains_iff_mem.1 (by kernel_rfl), by kernel_rfl⟩
theorem unfollowed : (Rows.clusterNilRow.unfollowed == Tryz.checked.prog.unfollowed 3) = true := by rw [unf]; rfl
theorem recurses : (Rows.clusterNilRow.recurses == Tryz.checked.prog.recurses 3) = true := by unfold Program.recurses; rw [unf]; rfl
end Go.Proofs.YtcckdckhhkmcgaaGreatDoor.Clo

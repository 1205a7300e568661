/-
  The table of types, lists of numbers, arithmetic without overflow.
-/
import Derived.Test.YtlbmgfiepmhjhaaAxP4p
import Derived.Test.YtlbmgfiepmhjhaaProg
import Derived.KernelRfl
import Derived.IntWalk
set_option linter.all false
namespace Go.Ax
open Go.Proofs

def tab : Tab := [(2, ⟨.int .i64, 1, .int .i64 0⟩), (3, ⟨.int .i64, 1, .int .i64 0⟩), (4, ⟨.bool, 1, .bool false⟩), (22, ⟨.slc 2, 1, .slc true 2 (.int .i64 0) []⟩), (23, ⟨.slc 22, 1, .slc true 22 (.slc true 2 (.int .i64 0) []) []⟩), (25, ⟨.agg [(0, 22), (1, 23)], 2, .agg [.slc true 2 (.int .i64 0) [], .slc true 22 (.slc true 2 (.int .i64 0) []) []]⟩), (29, ⟨.agg [(0, 22), (1, 23)], 2, .agg [.slc true 2 (.int .i64 0) [], .slc true 22 (.slc true 2 (.int .i64 0) []) []]⟩), (39, ⟨.agg [(0, 22), (1, 22), (2, 22)], 3, .agg [.slc true 2 (.int .i64 0) [], .slc true 2 (.int .i64 0) [], .slc true 2 (.int .i64 0) []]⟩), (41, ⟨.slc 74, 1, .slc true 74 (.agg [.slc true 2 (.int .i64 0) []]) []⟩), (43, ⟨.agg [(0, 41), (1, 23)], 2, .agg [.slc true 74 (.agg [.slc true 2 (.int .i64 0) []]) [], .slc true 22 (.slc true 2 (.int .i64 0) []) []]⟩), (46, ⟨.agg [(0, 22), (1, 22), (2, 22)], 3, .agg [.slc true 2 (.int .i64 0) [], .slc true 2 (.int .i64 0) [], .slc true 2 (.int .i64 0) []]⟩), (74, ⟨.agg [(0, 22)], 1, .agg [.slc true 2 (.int .i64 0) []]⟩), (106, ⟨.int .u64, 1, .int .u64 0⟩), (116, ⟨.int .i64, 1, .int .i64 0⟩), (127, ⟨.int .u64, 1, .int .u64 0⟩), (138, ⟨.int .u64, 1, .int .u64 0⟩)]
theorem mixed : Try.prog.follows .mixedOrders = true := by kernel_rfl
theorem tabOk : TabOk Try.prog tab := ⟨by kernel_rfl, by kernel_rfl, by kernel_rfl⟩

def I (xs : List Int) : List V := xs.map (.int .i64)
def unI (es : List V) : List Int := es.map V.toI

def IsI (es : List V) : Prop := ∃ l, es = I l
@[simp] theorem unI_I (xs : List Int) : unI (I xs) = xs := by
  induction xs with
  | nil => rfl
  | cons x l ih => simp only [I, unI, List.map_cons, V.toI, List.cons.injEq, true_and] at ih ⊢; exact ih
@[simp] theorem I_length (xs : List Int) : (I xs).length = xs.length := by simp [I]
@[simp] theorem I_getD (xs : List Int) (i : Nat) : (I xs).getD i (.int .i64 0) = .int .i64 (xs.getD i 0) := by
  simp only [I, List.getD_eq_getElem?_getD, List.getElem?_map]
  cases xs[i]? <;> rfl
@[simp] theorem I_set (xs : List Int) (i : Nat) (y : Int) : (I xs).set i (.int .i64 y) = I (xs.set i y) := by simp [I, List.map_set]
@[simp] theorem I_append (xs ys : List Int) : I xs ++ I ys = I (xs ++ ys) := by simp [I]
@[simp] theorem I_cons (x : Int) (xs : List Int) : V.int .i64 x :: I xs = I (x :: xs) := by simp [I]
@[simp] theorem I_take (xs : List Int) (n : Nat) : (I xs).take n = I (xs.take n) := by simp [I]
@[simp] theorem I_drop (xs : List Int) (n : Nat) : (I xs).drop n = I (xs.drop n) := by simp [I]
@[simp] theorem I_replicate (n : Nat) (x : Int) : List.replicate n (V.int .i64 x) = I (List.replicate n x) := by simp [I]
@[simp] theorem I_frzs (xs : List Int) : V.frzs (I xs) = I xs := by
  rw [V.frzs_eq]
  simp [I, V.frz]
@[simp] theorem I_noFzs (xs : List Int) : V.noFzs (I xs) = true := by
  rw [V.noFzs_eq]
  simp [I, V.noFz]
@[simp] theorem I_owneds (xs : List Int) : V.owneds (I xs) = false := by
  rw [V.owneds_eq]
  simp [I, V.owned]
@[simp] theorem I_nil : I [] = [] := rfl
theorem I_solid (xs : List Int) : ∀ x ∈ I xs, x.solid = true := by
  intro x hx
  simp only [I, List.mem_map] at hx
  obtain ⟨n, _, rfl⟩ := hx
  rfl
@[simp] theorem ok_int (o : Bool) (n : Int) : vw stdV tab o 20 2 (.int .i64 n) = some (.int .i64 n) := rfl
@[simp] theorem ok_int' (o : Bool) (n : Int) : vw stdV tab o 20 3 (.int .i64 n) = some (.int .i64 n) := rfl
@[simp] theorem toI_int (k : IntKind) (n : Int) : stdV.toI (.int k n) = n := rfl

theorem wrap_id {n : Int} (h1 : -9223372036854775808 ≤ n) (h2 : n ≤ 9223372036854775807) : IntKind.wrap .i64 n = n := IntWalk.i64_in n ⟨h1, h2⟩
theorem drop_cons {α : Type} {xs : List α} {i : Nat} (d : α) (h : i < xs.length) : xs.drop i = xs.getD i d :: xs.drop (i + 1) := by
  rw [List.drop_eq_getElem_cons h, List.getD_eq_getElem?_getD, List.getElem?_eq_getElem h]
  rfl
theorem toNat_succ {i : Int} (h : 0 ≤ i) : (i + 1).toNat = i.toNat + 1 := by omega
theorem all_drop {xs : List Int} {i : Nat} {p : Int → Bool} (h : i < xs.length) : (xs.drop i).all p = (p (xs.getD i 0) && (xs.drop (i + 1)).all p) := by
  rw [drop_cons 0 h, List.all_cons]
theorem fill_set {α : Type} {xs : List α} {k : Nat} (c d : α) (h : k < xs.length) : (xs.take k ++ List.replicate (xs.length - k) c).set k (xs.getD k d) = xs.take (k + 1) ++ List.replicate (xs.length - (k + 1)) c := by
  have e : xs.length - k = (xs.length - (k + 1)) + 1 := by omega
  rw [e, List.replicate_succ, List.set_append_right _ _ (by rw [List.length_take]; omega), List.length_take, Nat.min_eq_left (Nat.le_of_lt h), Nat.sub_self, List.set_cons_zero,
    List.take_succ_eq_append_getElem h, List.getD_eq_getElem?_getD, List.getElem?_eq_getElem h, List.append_assoc]
  rfl
theorem stdEqs {L : Alg} {T : Tab} (h : L = std T) : L.v = stdV
    ∧ (∀ (k : IntKind) (n : Int), L.wrap k n = (k.wrap n))
    ∧ (∀ (a : Int) (b : Int), L.add a b = (a + b))
    ∧ (∀ (a : Int) (b : Int), L.sub a b = (a - b))
    ∧ (∀ (a : Int) (b : Int), L.mul a b = (a * b))
    ∧ (∀ (a : Int) (b : Int), L.quo a b = (a.tdiv b))
    ∧ (∀ (a : Int) (b : Int), L.rem a b = (a.tmod b))
    ∧ (∀ (a : Int) (b : Int), L.imin a b = (min a b))
    ∧ (∀ (a : Int) (b : Int), L.imax a b = (max a b))
    ∧ (∀ (a : Int) (b : Int), L.eqI a b = (a == b))
    ∧ (∀ (a : Int) (b : Int), L.leI a b = (decide (a ≤ b)))
    ∧ (∀ (a : Int) (b : Int), L.ltI a b = (decide (a < b)))
    ∧ (∀ (a : Bool) (b : Bool), L.eqB a b = (a == b))
    ∧ (∀ (a : Bool), L.not a = (!a))
    ∧ (∀ (a : Bool) (b : Bool), L.and a b = (a && b))
    ∧ (∀ (c : Bool) (a : Bool) (b : Bool), L.pick c a b = (bif c then a else b))
    ∧ (∀ (a : ByteArray) (b : ByteArray), L.eqS a b = (a.toList == b.toList))
    ∧ (∀ (a : ByteArray) (b : ByteArray), L.ltS a b = (Op.bytesLess a.toList b.toList))
    ∧ (∀ (a : ByteArray) (b : ByteArray), L.appS a b = (a ++ b))
    ∧ (∀ (a : ByteArray), L.lenS a = ((a.size : Int)))
    ∧ (∀ (s : ByteArray) (n : Int), L.getS s n = (((s.data.getD n.toNat 0).toNat : Int)))
    ∧ (∀ (s : ByteArray) (l : Int) (h : Int), L.extS s l h = (s.extract l.toNat h.toNat))
    ∧ (∀ (es : List V), L.len es = ((es.length : Int)))
    ∧ (∀ (es : List V) (i : Nat) (d : V), L.get es i d = (es.getD i d))
    ∧ (∀ (es : List V) (i : Nat) (y : V), L.set es i y = (es.set i y))
    ∧ (∀ (a : List V) (b : List V), L.app a b = (a ++ b))
    ∧ (∀ (es : List V) (l : Int) (h : Int), L.sli es l h = ((es.take h.toNat).drop l.toNat))
    ∧ (∀ (n : Int) (z : V), L.rep n z = (List.replicate n.toNat z))
    ∧ (∀ (x : List V), L.frz x = (V.frzs x))
    ∧ (∀ (x : Int), L.nat x = (Int.toNat x))
    ∧ (∀ (i : Nat) (es : List V), L.ltN i es = (i < es.length))
    ∧ (∀ (es : List V), L.nofz es = (V.noFzs es = true))
    ∧ (∀ (es : List V), L.nown es = (V.owneds es = false))
    ∧ (∀ (es : List V), L.emp es = (es = []))
    ∧ (∀ (o : Bool) (t : TypeId) (y : V), L.ok o t y = (vw stdV T o 20 t y = some y))
    ∧ (∀ (t : TypeId) (y : V), L.okS t y = OkS T t y)
    ∧ (∀ (es : List V), L.solid es = (∀ x ∈ es, x.solid = true))
    ∧ (∀ (a : Int) (b : Int), L.le a b = (a ≤ b))
    ∧ (∀ (a : Int) (b : Int), L.lt a b = (a < b))
    ∧ (∀ (b : Int), L.ne0 b = (b ≠ 0))
    ∧ (∀ (b : Bool) (p : Prop), L.imp b p = (b = true → p))
    ∧ (∀ (b : Bool), L.tt b = (b = true))
    ∧ (∀ (b : Bool) (p : Prop) (q : Prop), L.ifP b p q = ((b = true → p) ∧ (b = false → q))) := by
  subst h
  exact ⟨rfl, by intros; rfl, by intros; rfl, by intros; rfl, by intros; rfl, by intros; rfl, by intros; rfl, by intros; rfl, by intros; rfl, by intros; rfl, by intros; rfl, by intros; rfl, by intros; rfl, by intros; rfl, by intros; rfl, by intros; rfl, by intros; rfl, by intros; rfl, by intros; rfl, by intros; rfl, by intros; rfl, by intros; rfl, by intros; rfl, by intros; rfl, by intros; rfl, by intros; rfl, by intros; rfl, by intros; rfl, by intros; rfl, by intros; rfl, by intros; rfl, by intros; rfl, by intros; rfl, by intros; rfl, by intros; rfl, by intros; rfl, by intros; rfl, by intros; rfl, by intros; rfl, by intros; rfl, by intros; rfl, by intros; rfl, by intros; rfl⟩
end Go.Ax

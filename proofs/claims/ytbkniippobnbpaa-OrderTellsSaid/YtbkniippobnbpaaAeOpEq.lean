/-
  What each operation comes to, by name: for walks.
-/
import Derived.Test.YtbkniippobnbpaaAeHas
namespace Go.Ae
set_option linter.unusedSimpArgs false
section
variable {P : Program} (s : St) (τ : Fr)

theorem opV_move (x : Operand) : opV P s τ (.move x) = ret1 s (opd P τ x) := rfl
theorem opV_assign (x : Operand) : opV P s τ (.assign x) = ret1 s (opd P τ x) := rfl
theorem opV_pick (c a b : Operand) : opV P s τ (.pick c a b) = oPick s (opd P τ c) (opd P τ a) (opd P τ b) := rfl
theorem opV_alloc (t : TypeId) : opV P s τ (.alloc t) = oAlloc P s t := rfl
theorem opV_box (t : TypeId) (x : Operand) : opV P s τ (.box t x) = oBox s t (opd P τ x) := rfl
theorem opV_build (t : TypeId) (ps : Array (Nat × Operand)) : opV P s τ (.build t ps) = oBuild P s t (pairs (opd P τ) ps.toList) := rfl
theorem opV_buildSlice (t : TypeId) (n : Nat) (ps : Array (Nat × Operand)) : opV P s τ (.buildSlice t n ps) = oBuildSlice P s t n (pairs (opd P τ) ps.toList) := rfl
theorem opV_load (t : TypeId) (a : Operand) : opV P s τ (.load t a) = oLoad P s t (opd P τ a) := rfl
theorem opV_store (t : TypeId) (a x : Operand) : opV P s τ (.store t a x) = oStore P s t (opd P τ a) (opd P τ x) := rfl
theorem opV_nilCheck (x : Operand) : opV P s τ (.nilCheck x) = oNil s (opd P τ x) := rfl
theorem opV_unOp (op : UnOp) (t : TypeId) (x : Operand) : opV P s τ (.unOp op t x) = oUn s op (opd P τ x) := rfl
theorem opV_binOp (op : BinOp) (t u : TypeId) (x y : Operand) : opV P s τ (.binOp op t x y u) = oBin P s op t x y (opd P τ x) (opd P τ y) := rfl
theorem opV_makeInterface (t : TypeId) (x : Operand) : opV P s τ (.makeInterface t x) = oIface P s t (opd P τ x) := rfl
theorem opV_makeFunc (fn : Fn) (a b : Array Operand) : opV P s τ (.makeFunc fn a b) = oFunc s fn (mapO (opd P τ) a.toList) (mapO (opd P τ) b.toList) := rfl
theorem opV_makeSlice (t : TypeId) (l c : Operand) : opV P s τ (.makeSlice t l c) = oMakeSlice P s t (opd P τ l) (opd P τ c) := rfl
theorem opV_slice (t : TypeId) (x : Operand) (lo hi mx : Option Operand) : opV P s τ (.slice t x lo hi mx) = oSlice P s t (opd P τ x) (mapO (opd P τ) lo.toList) (mapO (opd P τ) hi.toList) (mapO (opd P τ) mx.toList) := rfl
theorem opV_fieldAddr (t : TypeId) (x : Operand) (f : Nat) : opV P s τ (.fieldAddr t x f) = oFieldAddr P s t f (opd P τ x) := rfl
theorem opV_field (t : TypeId) (x : Operand) (f : Nat) : opV P s τ (.field t x f) = oField P s t f (opd P τ x) := rfl
theorem opV_indexAddr (t : TypeId) (x i : Operand) : opV P s τ (.indexAddr t x i) = oIndexAddr P s t (opd P τ x) (opd P τ i) := rfl
theorem opV_index (t : TypeId) (x i : Operand) : opV P s τ (.index t x i) = oIndex P s t (opd P τ x) (opd P τ i) := rfl
theorem opV_extract (t : Operand) (i : Nat) : opV P s τ (.extract t i) = oExtract s i (opd P τ t) := rfl
theorem opV_call (c : Call) : opV P s τ (.call c) = oCall P s (opd P τ) c := rfl

theorem oCall_value (ρ : Operand → Option CV) (f : Operand) (args : Array Operand) (ts : Array TypeId) :
    oCall P s ρ { callee := .value f, args := args, argTypes := ts } = (match mapO ρ args.toList with | none => none | some l => oCallV P s (ρ f) l) := rfl
theorem oCall_builtin (ρ : Operand → Option CV) (b : Builtin) (args : Array Operand) (ts : Array TypeId) :
    oCall P s ρ { callee := .builtin b, args := args, argTypes := ts } = (match mapO ρ args.toList with | none => none | some l => builtinV P s b ts l) := rfl
theorem oCallV_func (f : Nat) (first cap args : List CV) : oCallV P s (some (.func (.func f) first cap)) args = callF P f (first ++ args ++ cap) s := rfl

variable (t : TypeId) (xo yo : Operand) (k : IntKind) (a b : Int)
theorem bin_add : binV P s .add t xo yo (.int k a) (.int k b) = some (.int k (k.wrap (a + b))) := by simp [binV, intOp]
theorem bin_sub : binV P s .sub t xo yo (.int k a) (.int k b) = some (.int k (k.wrap (a - b))) := by simp [binV, intOp]
theorem bin_mul : binV P s .mul t xo yo (.int k a) (.int k b) = some (.int k (k.wrap (a * b))) := by simp [binV, intOp]
theorem bin_lss : binV P s .lss t xo yo (.int k a) (.int k b) = some (.bool (decide (a < b))) := by simp [binV, intOp]
theorem bin_leq : binV P s .leq t xo yo (.int k a) (.int k b) = some (.bool (decide (a ≤ b))) := by simp [binV, intOp]
theorem bin_gtr : binV P s .gtr t xo yo (.int k a) (.int k b) = some (.bool (decide (a > b))) := by simp [binV, intOp]
theorem bin_geq : binV P s .geq t xo yo (.int k a) (.int k b) = some (.bool (decide (a ≥ b))) := by simp [binV, intOp]
theorem bin_eql : binV P s .eql t xo yo (.int k a) (.int k b) = some (.bool (a == b)) := by simp [binV, intOp]
theorem bin_neq : binV P s .neq t xo yo (.int k a) (.int k b) = some (.bool (a != b)) := by simp [binV, intOp]
variable (x y : List Nat)
theorem bins_lss : binV P s .lss t xo yo (.str x) (.str y) = some (.bool (natsLess x y)) := by simp [binV, strOp]
theorem bins_leq : binV P s .leq t xo yo (.str x) (.str y) = some (.bool (natsLess x y || natsEq x y)) := by simp [binV, strOp]
theorem bins_gtr : binV P s .gtr t xo yo (.str x) (.str y) = some (.bool !(natsLess x y || natsEq x y)) := by simp [binV, strOp]
theorem bins_geq : binV P s .geq t xo yo (.str x) (.str y) = some (.bool !(natsLess x y)) := by simp [binV, strOp]
theorem bins_eql : binV P s .eql t xo yo (.str x) (.str y) = some (.bool (natsEq x y)) := by simp [binV, strOp]
theorem bins_neq : binV P s .neq t xo yo (.str x) (.str y) = some (.bool !(natsEq x y)) := by simp [binV, strOp]
variable (p q : Bool)
theorem binb_eql : binV P s .eql t xo yo (.bool p) (.bool q) = (match eqGuard P t xo yo (.bool p) (.bool q) with | true => (eqv P s 50 t (.bool p) (.bool q)).map CV.bool | false => none) := rfl
theorem ret1_some (v : CV) : ret1 s (some v) = some (.val v s) := rfl
theorem ret2_some (v : CV) (s' : St) : ret2 (some (v, s')) = some (.val v s') := rfl
theorem retU_some (s' : St) : retU (some s') = some (.val (.tuple []) s') := rfl
theorem oBin_some (op : BinOp) (u v : CV) : oBin P s op t xo yo (some u) (some v) = ret1 s (binV P s op t xo yo u v) := rfl
theorem oUn_some (op : UnOp) (v : CV) : oUn s op (some v) = ret1 s (unV op v) := rfl
theorem oPick_some (c : Bool) (u v : Option CV) : oPick s (some (.bool c)) u v = ret1 s (bif c then u else v) := by cases c <;> rfl
theorem oLoad_some (i j : Nat) : oLoad P s t (some (.ptr i j)) = ret1 s (loadVar P s t i j) := rfl
theorem oStore_some (i j : Nat) (v : CV) : oStore P s t (some (.ptr i j)) (some v) = retU (storeVar P s t i j v) := rfl
theorem oBox_some (v : CV) : oBox s t (some v) = some (.val (.ptr s.nx 0) (s.box (cellsOf v) t)) := by simp only [oBox, newVar_eq]
theorem oIndexAddr_some (u v : CV) : oIndexAddr P s t (some u) (some v) = ret1 s (indexAt P t u v) := rfl
theorem oIndex_some (u v : CV) : oIndex P s t (some u) (some v) = ret1 s (indexV P t u v) := rfl
theorem oExtract_some (i : Nat) (l : List CV) : oExtract s i (some (.tuple l)) = ret1 s l[i]? := rfl
theorem un_not : unV .not (.bool p) = some (.bool !p) := rfl
theorem un_neg : unV .neg (.int k a) = some (.int k (k.wrap (0 - a))) := by simp [unV]
theorem mapO_nil (f : Operand → Option CV) : mapO f [] = some [] := rfl
theorem mapO_cons (f : Operand → Option CV) (u : Operand) (l : List Operand) {v : CV} {r : List CV} (h : f u = some v) (h' : mapO f l = some r) : mapO f (u :: l) = some (v :: r) := by simp only [mapO, h, h']
theorem pairs_nil (f : Operand → Option CV) : pairs f [] = some [] := rfl
theorem pairs_cons (f : Operand → Option CV) (i : Nat) (u : Operand) (l : List (Nat × Operand)) {v : CV} {r : List (Nat × CV)} (h : f u = some v) (h' : pairs f l = some r) : pairs f ((i, u) :: l) = some ((i, v) :: r) := by simp only [pairs, h, h']
theorem beq_ft : (false == true) = false := rfl
theorem beq_tf : (true == false) = false := rfl
end
end Go.Ae

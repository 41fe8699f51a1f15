import Derived.Test.YtajheicheefpeaaM2
import Derived.Conc.CompanyDraw
import Derived.KernelRfl
/- Which operations are calm: comparisons, arithmetic, maps, fields. -/
namespace Go.Proofs.Ytajheicheefpeaa
open Go.Conc
set_option linter.unusedSimpArgs false
set_option linter.unusedVariables false

section
variable {P : Program}
theorem calm_shape' {β : Type} (r : Nat) {f : Option (TypeId × Nat) → Sem β} (h : ∀ s, Calm P (f s)) (hk : ∀ e n, f (some (e, n)) = f (some (e, 0))) : Calm P (shape r >>= f) := calm_shape r h fun e n => .inl (hk e n)
theorem calm_viewAt (r : Nat) : Calm P (viewAt r) := by
  unfold viewAt
  refine calm_shape' r (fun s => ?_) (fun e n => rfl)
  repeat' first | with_reducible exact calm_pure _ | with_reducible exact calm_stuck _ | ((with_reducible refine calm_unsupported _ ?_); rfl) | with_reducible exact calm_goPanic _ | with_reducible exact calm_load _ | with_reducible exact calm_store _ _ | ((with_reducible refine calm_getObj _ (fun _ => ?_) ?_); rotate_left; focus (intro _ _; rfl)) | with_reducible exact calm_setMap _ _ _ | with_reducible exact calm_choose _ | with_reducible exact calm_typeInfo _ | with_reducible exact calm_underlying _ | with_reducible exact calm_zeroValue _ | with_reducible exact calm_sizeOf _ | with_reducible exact calm_isAgg _ | with_reducible exact calm_loadCells _ _ | with_reducible exact calm_storeCells _ _ _ | with_reducible exact calm_loadVar _ _ | with_reducible exact calm_newRow _ _ | with_reducible exact calm_newVar _ _ | with_reducible exact calm_elemOf _ | with_reducible exact calm_part _ _ _ | with_reducible exact calm_runtimePanic _ | with_reducible exact calm_boundsPanic _ _ _ _ | with_reducible exact calm_askRoom _ | with_reducible exact calm_asIntOf _ | with_reducible exact calm_asInt _ | with_reducible exact calm_asBool _ | with_reducible exact calm_asAgg _ | with_reducible exact calm_sureAddr _ | with_reducible exact calm_asAddr _ | with_reducible exact calm_noRoom | with_reducible refine calm_map ?_ | with_reducible refine Calm.bind ?_ fun _ => ?_ | split | dsimp only
theorem calm_numberAt (r : Nat) : Calm P (numberAt r) := by
  unfold numberAt
  refine calm_shape' r (fun s => ?_) (fun e n => rfl)
  repeat' first | with_reducible exact calm_pure _ | with_reducible exact calm_stuck _ | ((with_reducible refine calm_unsupported _ ?_); rfl) | with_reducible exact calm_goPanic _ | with_reducible exact calm_load _ | with_reducible exact calm_store _ _ | ((with_reducible refine calm_getObj _ (fun _ => ?_) ?_); rotate_left; focus (intro _ _; rfl)) | with_reducible exact calm_setMap _ _ _ | with_reducible exact calm_choose _ | with_reducible exact calm_typeInfo _ | with_reducible exact calm_underlying _ | with_reducible exact calm_zeroValue _ | with_reducible exact calm_sizeOf _ | with_reducible exact calm_isAgg _ | with_reducible exact calm_loadCells _ _ | with_reducible exact calm_storeCells _ _ _ | with_reducible exact calm_loadVar _ _ | with_reducible exact calm_newRow _ _ | with_reducible exact calm_newVar _ _ | with_reducible exact calm_elemOf _ | with_reducible exact calm_part _ _ _ | with_reducible exact calm_runtimePanic _ | with_reducible exact calm_boundsPanic _ _ _ _ | with_reducible exact calm_askRoom _ | with_reducible exact calm_asIntOf _ | with_reducible exact calm_asInt _ | with_reducible exact calm_asBool _ | with_reducible exact calm_asAgg _ | with_reducible exact calm_sureAddr _ | with_reducible exact calm_asAddr _ | with_reducible exact calm_noRoom | with_reducible refine calm_map ?_ | with_reducible refine Calm.bind ?_ fun _ => ?_ | split | dsimp only
theorem calm_behindNumber (a : Addr) : Calm P (behindNumber a) := Calm.bind (calm_numberAt _) fun _ => calm_pure _
theorem calm_noView (a : Addr) : Calm P (noView a) := by
  unfold noView
  repeat' first | with_reducible exact calm_viewAt _ | with_reducible exact calm_pure _ | with_reducible exact calm_stuck _ | ((with_reducible refine calm_unsupported _ ?_); rfl) | with_reducible exact calm_goPanic _ | with_reducible exact calm_load _ | with_reducible exact calm_store _ _ | ((with_reducible refine calm_getObj _ (fun _ => ?_) ?_); rotate_left; focus (intro _ _; rfl)) | with_reducible exact calm_setMap _ _ _ | with_reducible exact calm_choose _ | with_reducible exact calm_typeInfo _ | with_reducible exact calm_underlying _ | with_reducible exact calm_zeroValue _ | with_reducible exact calm_sizeOf _ | with_reducible exact calm_isAgg _ | with_reducible exact calm_loadCells _ _ | with_reducible exact calm_storeCells _ _ _ | with_reducible exact calm_loadVar _ _ | with_reducible exact calm_newRow _ _ | with_reducible exact calm_newVar _ _ | with_reducible exact calm_elemOf _ | with_reducible exact calm_part _ _ _ | with_reducible exact calm_runtimePanic _ | with_reducible exact calm_boundsPanic _ _ _ _ | with_reducible exact calm_askRoom _ | with_reducible exact calm_asIntOf _ | with_reducible exact calm_asInt _ | with_reducible exact calm_asBool _ | with_reducible exact calm_asAgg _ | with_reducible exact calm_sureAddr _ | with_reducible exact calm_asAddr _ | with_reducible exact calm_noRoom | with_reducible refine calm_map ?_ | with_reducible refine Calm.bind ?_ fun _ => ?_ | split | dsimp only
theorem calm_byteOf (a : Addr) : Calm P (byteOf a) := by
  unfold byteOf
  split
  · exact calm_pure _
  · refine calm_prog (Calm.bind (calm_noView _) fun _ => calm_shape' _ (fun s => ?_) (fun e n => rfl))
    repeat' first | with_reducible exact calm_pure _ | with_reducible exact calm_stuck _ | ((with_reducible refine calm_unsupported _ ?_); rfl) | with_reducible exact calm_goPanic _ | with_reducible exact calm_load _ | with_reducible exact calm_store _ _ | ((with_reducible refine calm_getObj _ (fun _ => ?_) ?_); rotate_left; focus (intro _ _; rfl)) | with_reducible exact calm_setMap _ _ _ | with_reducible exact calm_choose _ | with_reducible exact calm_typeInfo _ | with_reducible exact calm_underlying _ | with_reducible exact calm_zeroValue _ | with_reducible exact calm_sizeOf _ | with_reducible exact calm_isAgg _ | with_reducible exact calm_loadCells _ _ | with_reducible exact calm_storeCells _ _ _ | with_reducible exact calm_loadVar _ _ | with_reducible exact calm_newRow _ _ | with_reducible exact calm_newVar _ _ | with_reducible exact calm_elemOf _ | with_reducible exact calm_part _ _ _ | with_reducible exact calm_runtimePanic _ | with_reducible exact calm_boundsPanic _ _ _ _ | with_reducible exact calm_askRoom _ | with_reducible exact calm_asIntOf _ | with_reducible exact calm_asInt _ | with_reducible exact calm_asBool _ | with_reducible exact calm_asAgg _ | with_reducible exact calm_sureAddr _ | with_reducible exact calm_asAddr _ | with_reducible exact calm_noRoom | with_reducible refine calm_map ?_ | with_reducible refine Calm.bind ?_ fun _ => ?_ | split | dsimp only
theorem calm_partAt (a : Addr) (c b : Nat) : Calm P (partAt a c b) := by
  unfold partAt
  repeat' first | with_reducible exact calm_byteOf _ | with_reducible exact calm_pure _ | with_reducible exact calm_stuck _ | ((with_reducible refine calm_unsupported _ ?_); rfl) | with_reducible exact calm_goPanic _ | with_reducible exact calm_load _ | with_reducible exact calm_store _ _ | ((with_reducible refine calm_getObj _ (fun _ => ?_) ?_); rotate_left; focus (intro _ _; rfl)) | with_reducible exact calm_setMap _ _ _ | with_reducible exact calm_choose _ | with_reducible exact calm_typeInfo _ | with_reducible exact calm_underlying _ | with_reducible exact calm_zeroValue _ | with_reducible exact calm_sizeOf _ | with_reducible exact calm_isAgg _ | with_reducible exact calm_loadCells _ _ | with_reducible exact calm_storeCells _ _ _ | with_reducible exact calm_loadVar _ _ | with_reducible exact calm_newRow _ _ | with_reducible exact calm_newVar _ _ | with_reducible exact calm_elemOf _ | with_reducible exact calm_part _ _ _ | with_reducible exact calm_runtimePanic _ | with_reducible exact calm_boundsPanic _ _ _ _ | with_reducible exact calm_askRoom _ | with_reducible exact calm_asIntOf _ | with_reducible exact calm_asInt _ | with_reducible exact calm_asBool _ | with_reducible exact calm_asAgg _ | with_reducible exact calm_sureAddr _ | with_reducible exact calm_asAddr _ | with_reducible exact calm_noRoom | with_reducible refine calm_map ?_ | with_reducible refine Calm.bind ?_ fun _ => ?_ | split | dsimp only
theorem calm_fieldPlace (a : Addr) (f : Field) : Calm P (fieldPlace a f) := by
  unfold fieldPlace
  repeat' first | with_reducible exact calm_partAt _ _ _ | with_reducible exact calm_pure _ | with_reducible exact calm_stuck _ | ((with_reducible refine calm_unsupported _ ?_); rfl) | with_reducible exact calm_goPanic _ | with_reducible exact calm_load _ | with_reducible exact calm_store _ _ | ((with_reducible refine calm_getObj _ (fun _ => ?_) ?_); rotate_left; focus (intro _ _; rfl)) | with_reducible exact calm_setMap _ _ _ | with_reducible exact calm_choose _ | with_reducible exact calm_typeInfo _ | with_reducible exact calm_underlying _ | with_reducible exact calm_zeroValue _ | with_reducible exact calm_sizeOf _ | with_reducible exact calm_isAgg _ | with_reducible exact calm_loadCells _ _ | with_reducible exact calm_storeCells _ _ _ | with_reducible exact calm_loadVar _ _ | with_reducible exact calm_newRow _ _ | with_reducible exact calm_newVar _ _ | with_reducible exact calm_elemOf _ | with_reducible exact calm_part _ _ _ | with_reducible exact calm_runtimePanic _ | with_reducible exact calm_boundsPanic _ _ _ _ | with_reducible exact calm_askRoom _ | with_reducible exact calm_asIntOf _ | with_reducible exact calm_asInt _ | with_reducible exact calm_asBool _ | with_reducible exact calm_asAgg _ | with_reducible exact calm_sureAddr _ | with_reducible exact calm_asAddr _ | with_reducible exact calm_noRoom | with_reducible refine calm_map ?_ | with_reducible refine Calm.bind ?_ fun _ => ?_ | split | dsimp only
theorem calm_fieldAt (t : TypeId) (x : Value) (f : Nat) : Calm P (Instr.fieldAt t x f) := by
  unfold Instr.fieldAt
  repeat' first | with_reducible exact calm_fieldPlace _ _ | with_reducible exact calm_pure _ | with_reducible exact calm_stuck _ | ((with_reducible refine calm_unsupported _ ?_); rfl) | with_reducible exact calm_goPanic _ | with_reducible exact calm_load _ | with_reducible exact calm_store _ _ | ((with_reducible refine calm_getObj _ (fun _ => ?_) ?_); rotate_left; focus (intro _ _; rfl)) | with_reducible exact calm_setMap _ _ _ | with_reducible exact calm_choose _ | with_reducible exact calm_typeInfo _ | with_reducible exact calm_underlying _ | with_reducible exact calm_zeroValue _ | with_reducible exact calm_sizeOf _ | with_reducible exact calm_isAgg _ | with_reducible exact calm_loadCells _ _ | with_reducible exact calm_storeCells _ _ _ | with_reducible exact calm_loadVar _ _ | with_reducible exact calm_newRow _ _ | with_reducible exact calm_newVar _ _ | with_reducible exact calm_elemOf _ | with_reducible exact calm_part _ _ _ | with_reducible exact calm_runtimePanic _ | with_reducible exact calm_boundsPanic _ _ _ _ | with_reducible exact calm_askRoom _ | with_reducible exact calm_asIntOf _ | with_reducible exact calm_asInt _ | with_reducible exact calm_asBool _ | with_reducible exact calm_asAgg _ | with_reducible exact calm_sureAddr _ | with_reducible exact calm_asAddr _ | with_reducible exact calm_noRoom | with_reducible refine calm_map ?_ | with_reducible refine Calm.bind ?_ fun _ => ?_ | split | dsimp only
theorem calm_asNumber (a : Addr) (b : Bool) : Calm P (asNumber a b) := Calm.bind (calm_newObj _) fun _ => calm_pure _
theorem cellAtBytes_zero (p : Program) (d : Nat) (e : TypeId) (off : Nat) (n : Int) : cellAtBytes p d e (0 / p.cellsOf e) off n = none := by
  unfold cellAtBytes
  simp only [Nat.zero_div, Nat.zero_mul]
  by_cases h : p.cellsOf e = 0 ∨ p.bytesOf e = 0
  · rcases h with h | h <;> simp [h]
  · simp only [not_or] at h
    simp only [h.1, h.2, decide_false, Bool.or_self, Bool.false_eq_true, if_false]
    cases byteOfCell p d e (off % p.cellsOf e) with
    | none => rfl
    | some b =>
      simp only [Option.bind_eq_bind, Option.bind_some]
      split
      · rfl
      · rename_i hh
        simp at hh
        omega
theorem calm_unsafeAdd (ts : Array TypeId) (t : TypeId) (x y : Value) : Calm P (Builtin.unsafeAdd_ ts t #[x, y]) := by
  cases x
  case pointer ptr =>
    show Calm P (asInt y >>= fun n => _)
    refine Calm.bind (calm_asInt _) fun n => ?_
    have key : ∀ (n : Int) (a : Addr), Calm P (shape a.block >>= fun s => match s with
        | some (e, cells) => program >>= fun p => match cellAtBytes p p.depth e (cells / p.cellsOf e) a.off n with
          | some off => (pure (Value.pointer (some { a with off })) : Sem Value)
          | none => unsupported (.unsafePointer "Add")
        | x => unsupported (.unsafePointer "Add")) := by
      intro n a
      refine calm_shape _ (fun s => ?_) (fun e n' => .inr ?_)
      · split
        · refine calm_prog ?_
          split
          · exact calm_pure _
          · exact calm_unsupported _
        · exact calm_unsupported _
      · intro w x w' h
        simp only [Sem.run_bind, program, Sem.run, Result.andThen, cellAtBytes_zero] at h
        simp [unsupported, Sem.run] at h
    repeat' first | exact key _ _ | with_reducible exact calm_viewAt _ | with_reducible exact calm_pure _ | with_reducible exact calm_stuck _ | ((with_reducible refine calm_unsupported _ ?_); rfl) | with_reducible exact calm_goPanic _ | with_reducible exact calm_load _ | with_reducible exact calm_store _ _ | ((with_reducible refine calm_getObj _ (fun _ => ?_) ?_); rotate_left; focus (intro _ _; rfl)) | with_reducible exact calm_setMap _ _ _ | with_reducible exact calm_choose _ | with_reducible exact calm_typeInfo _ | with_reducible exact calm_underlying _ | with_reducible exact calm_zeroValue _ | with_reducible exact calm_sizeOf _ | with_reducible exact calm_isAgg _ | with_reducible exact calm_loadCells _ _ | with_reducible exact calm_storeCells _ _ _ | with_reducible exact calm_loadVar _ _ | with_reducible exact calm_newRow _ _ | with_reducible exact calm_newVar _ _ | with_reducible exact calm_elemOf _ | with_reducible exact calm_part _ _ _ | with_reducible exact calm_runtimePanic _ | with_reducible exact calm_boundsPanic _ _ _ _ | with_reducible exact calm_askRoom _ | with_reducible exact calm_asIntOf _ | with_reducible exact calm_asInt _ | with_reducible exact calm_asBool _ | with_reducible exact calm_asAgg _ | with_reducible exact calm_sureAddr _ | with_reducible exact calm_asAddr _ | with_reducible exact calm_noRoom | with_reducible refine calm_map ?_ | with_reducible refine Calm.bind ?_ fun _ => ?_ | split | dsimp only
  all_goals exact calm_stuck _
theorem calm_movedNumber (t : TypeId) (x y : Value) : Calm P (movedNumber t x y) := by
  unfold movedNumber
  repeat' first | with_reducible exact calm_behindNumber _ | with_reducible exact calm_unsafeAdd _ _ _ _ | with_reducible exact calm_asNumber _ _ | with_reducible exact calm_pure _ | with_reducible exact calm_stuck _ | ((with_reducible refine calm_unsupported _ ?_); rfl) | with_reducible exact calm_goPanic _ | with_reducible exact calm_load _ | with_reducible exact calm_store _ _ | ((with_reducible refine calm_getObj _ (fun _ => ?_) ?_); rotate_left; focus (intro _ _; rfl)) | with_reducible exact calm_setMap _ _ _ | with_reducible exact calm_choose _ | with_reducible exact calm_typeInfo _ | with_reducible exact calm_underlying _ | with_reducible exact calm_zeroValue _ | with_reducible exact calm_sizeOf _ | with_reducible exact calm_isAgg _ | with_reducible exact calm_loadCells _ _ | with_reducible exact calm_storeCells _ _ _ | with_reducible exact calm_loadVar _ _ | with_reducible exact calm_newRow _ _ | with_reducible exact calm_newVar _ _ | with_reducible exact calm_elemOf _ | with_reducible exact calm_part _ _ _ | with_reducible exact calm_runtimePanic _ | with_reducible exact calm_boundsPanic _ _ _ _ | with_reducible exact calm_askRoom _ | with_reducible exact calm_asIntOf _ | with_reducible exact calm_asInt _ | with_reducible exact calm_asBool _ | with_reducible exact calm_asAgg _ | with_reducible exact calm_sureAddr _ | with_reducible exact calm_asAddr _ | with_reducible exact calm_noRoom | with_reducible refine calm_map ?_ | with_reducible refine Calm.bind ?_ fun _ => ?_ | split | dsimp only
theorem calm_movedPointer (t : TypeId) (x y : Value) : Calm P (movedPointer t x y) := by
  unfold movedPointer
  repeat' first | with_reducible exact calm_numberAt _ | with_reducible exact calm_unsafeAdd _ _ _ _ | with_reducible exact calm_pure _ | with_reducible exact calm_stuck _ | ((with_reducible refine calm_unsupported _ ?_); rfl) | with_reducible exact calm_goPanic _ | with_reducible exact calm_load _ | with_reducible exact calm_store _ _ | ((with_reducible refine calm_getObj _ (fun _ => ?_) ?_); rotate_left; focus (intro _ _; rfl)) | with_reducible exact calm_setMap _ _ _ | with_reducible exact calm_choose _ | with_reducible exact calm_typeInfo _ | with_reducible exact calm_underlying _ | with_reducible exact calm_zeroValue _ | with_reducible exact calm_sizeOf _ | with_reducible exact calm_isAgg _ | with_reducible exact calm_loadCells _ _ | with_reducible exact calm_storeCells _ _ _ | with_reducible exact calm_loadVar _ _ | with_reducible exact calm_newRow _ _ | with_reducible exact calm_newVar _ _ | with_reducible exact calm_elemOf _ | with_reducible exact calm_part _ _ _ | with_reducible exact calm_runtimePanic _ | with_reducible exact calm_boundsPanic _ _ _ _ | with_reducible exact calm_askRoom _ | with_reducible exact calm_asIntOf _ | with_reducible exact calm_asInt _ | with_reducible exact calm_asBool _ | with_reducible exact calm_asAgg _ | with_reducible exact calm_sureAddr _ | with_reducible exact calm_asAddr _ | with_reducible exact calm_noRoom | with_reducible refine calm_map ?_ | with_reducible refine Calm.bind ?_ fun _ => ?_ | split | dsimp only
theorem calm_twoPlaces (a b : Addr) : Calm P (Op.twoPlaces a b) := by
  unfold Op.twoPlaces
  repeat' first | with_reducible exact calm_byteOf _ | with_reducible exact calm_program | with_reducible exact calm_pure _ | with_reducible exact calm_stuck _ | ((with_reducible refine calm_unsupported _ ?_); rfl) | with_reducible exact calm_goPanic _ | with_reducible exact calm_load _ | with_reducible exact calm_store _ _ | ((with_reducible refine calm_getObj _ (fun _ => ?_) ?_); rotate_left; focus (intro _ _; rfl)) | with_reducible exact calm_setMap _ _ _ | with_reducible exact calm_choose _ | with_reducible exact calm_typeInfo _ | with_reducible exact calm_underlying _ | with_reducible exact calm_zeroValue _ | with_reducible exact calm_sizeOf _ | with_reducible exact calm_isAgg _ | with_reducible exact calm_loadCells _ _ | with_reducible exact calm_storeCells _ _ _ | with_reducible exact calm_loadVar _ _ | with_reducible exact calm_newRow _ _ | with_reducible exact calm_newVar _ _ | with_reducible exact calm_elemOf _ | with_reducible exact calm_part _ _ _ | with_reducible exact calm_runtimePanic _ | with_reducible exact calm_boundsPanic _ _ _ _ | with_reducible exact calm_askRoom _ | with_reducible exact calm_asIntOf _ | with_reducible exact calm_asInt _ | with_reducible exact calm_asBool _ | with_reducible exact calm_asAgg _ | with_reducible exact calm_sureAddr _ | with_reducible exact calm_asAddr _ | with_reducible exact calm_noRoom | with_reducible refine calm_map ?_ | with_reducible refine Calm.bind ?_ fun _ => ?_ | split | dsimp only
theorem calm_addrSub (k : IntKind) (a b : Addr) : Calm P (Op.addrSub k a b) := by
  unfold Op.addrSub
  repeat' first | with_reducible exact calm_twoPlaces _ _ | with_reducible exact calm_pure _ | with_reducible exact calm_stuck _ | ((with_reducible refine calm_unsupported _ ?_); rfl) | with_reducible exact calm_goPanic _ | with_reducible exact calm_load _ | with_reducible exact calm_store _ _ | ((with_reducible refine calm_getObj _ (fun _ => ?_) ?_); rotate_left; focus (intro _ _; rfl)) | with_reducible exact calm_setMap _ _ _ | with_reducible exact calm_choose _ | with_reducible exact calm_typeInfo _ | with_reducible exact calm_underlying _ | with_reducible exact calm_zeroValue _ | with_reducible exact calm_sizeOf _ | with_reducible exact calm_isAgg _ | with_reducible exact calm_loadCells _ _ | with_reducible exact calm_storeCells _ _ _ | with_reducible exact calm_loadVar _ _ | with_reducible exact calm_newRow _ _ | with_reducible exact calm_newVar _ _ | with_reducible exact calm_elemOf _ | with_reducible exact calm_part _ _ _ | with_reducible exact calm_runtimePanic _ | with_reducible exact calm_boundsPanic _ _ _ _ | with_reducible exact calm_askRoom _ | with_reducible exact calm_asIntOf _ | with_reducible exact calm_asInt _ | with_reducible exact calm_asBool _ | with_reducible exact calm_asAgg _ | with_reducible exact calm_sureAddr _ | with_reducible exact calm_asAddr _ | with_reducible exact calm_noRoom | with_reducible refine calm_map ?_ | with_reducible refine Calm.bind ?_ fun _ => ?_ | split | dsimp only
theorem calm_addrCmp (o : BinOp) (a b : Addr) : Calm P (Op.addrCmp o a b) := by
  unfold Op.addrCmp
  repeat' first | with_reducible exact calm_twoPlaces _ _ | with_reducible exact calm_pure _ | with_reducible exact calm_stuck _ | ((with_reducible refine calm_unsupported _ ?_); rfl) | with_reducible exact calm_goPanic _ | with_reducible exact calm_load _ | with_reducible exact calm_store _ _ | ((with_reducible refine calm_getObj _ (fun _ => ?_) ?_); rotate_left; focus (intro _ _; rfl)) | with_reducible exact calm_setMap _ _ _ | with_reducible exact calm_choose _ | with_reducible exact calm_typeInfo _ | with_reducible exact calm_underlying _ | with_reducible exact calm_zeroValue _ | with_reducible exact calm_sizeOf _ | with_reducible exact calm_isAgg _ | with_reducible exact calm_loadCells _ _ | with_reducible exact calm_storeCells _ _ _ | with_reducible exact calm_loadVar _ _ | with_reducible exact calm_newRow _ _ | with_reducible exact calm_newVar _ _ | with_reducible exact calm_elemOf _ | with_reducible exact calm_part _ _ _ | with_reducible exact calm_runtimePanic _ | with_reducible exact calm_boundsPanic _ _ _ _ | with_reducible exact calm_askRoom _ | with_reducible exact calm_asIntOf _ | with_reducible exact calm_asInt _ | with_reducible exact calm_asBool _ | with_reducible exact calm_asAgg _ | with_reducible exact calm_sureAddr _ | with_reducible exact calm_asAddr _ | with_reducible exact calm_noRoom | with_reducible refine calm_map ?_ | with_reducible refine Calm.bind ?_ fun _ => ?_ | split | dsimp only
theorem calm_addrMod (k : IntKind) (a : Addr) (n : Int) : Calm P (Op.addrMod k a n) := by
  unfold Op.addrMod
  refine calm_shape' _ (fun s => ?_) (fun e n => rfl)
  repeat' first | with_reducible exact calm_byteOf _ | with_reducible exact calm_pure _ | with_reducible exact calm_stuck _ | ((with_reducible refine calm_unsupported _ ?_); rfl) | with_reducible exact calm_goPanic _ | with_reducible exact calm_load _ | with_reducible exact calm_store _ _ | ((with_reducible refine calm_getObj _ (fun _ => ?_) ?_); rotate_left; focus (intro _ _; rfl)) | with_reducible exact calm_setMap _ _ _ | with_reducible exact calm_choose _ | with_reducible exact calm_typeInfo _ | with_reducible exact calm_underlying _ | with_reducible exact calm_zeroValue _ | with_reducible exact calm_sizeOf _ | with_reducible exact calm_isAgg _ | with_reducible exact calm_loadCells _ _ | with_reducible exact calm_storeCells _ _ _ | with_reducible exact calm_loadVar _ _ | with_reducible exact calm_newRow _ _ | with_reducible exact calm_newVar _ _ | with_reducible exact calm_elemOf _ | with_reducible exact calm_part _ _ _ | with_reducible exact calm_runtimePanic _ | with_reducible exact calm_boundsPanic _ _ _ _ | with_reducible exact calm_askRoom _ | with_reducible exact calm_asIntOf _ | with_reducible exact calm_asInt _ | with_reducible exact calm_asBool _ | with_reducible exact calm_asAgg _ | with_reducible exact calm_sureAddr _ | with_reducible exact calm_asAddr _ | with_reducible exact calm_noRoom | with_reducible refine calm_map ?_ | with_reducible refine Calm.bind ?_ fun _ => ?_ | split | dsimp only
theorem calm_floatArith (o : BinOp) (k : FloatKind) (x y : Nat) : Calm P (Op.floatArith o k x y) := by
  unfold Op.floatArith
  repeat' first | with_reducible exact calm_pure _ | with_reducible exact calm_stuck _ | ((with_reducible refine calm_unsupported _ ?_); rfl) | with_reducible exact calm_goPanic _ | with_reducible exact calm_load _ | with_reducible exact calm_store _ _ | ((with_reducible refine calm_getObj _ (fun _ => ?_) ?_); rotate_left; focus (intro _ _; rfl)) | with_reducible exact calm_setMap _ _ _ | with_reducible exact calm_choose _ | with_reducible exact calm_typeInfo _ | with_reducible exact calm_underlying _ | with_reducible exact calm_zeroValue _ | with_reducible exact calm_sizeOf _ | with_reducible exact calm_isAgg _ | with_reducible exact calm_loadCells _ _ | with_reducible exact calm_storeCells _ _ _ | with_reducible exact calm_loadVar _ _ | with_reducible exact calm_newRow _ _ | with_reducible exact calm_newVar _ _ | with_reducible exact calm_elemOf _ | with_reducible exact calm_part _ _ _ | with_reducible exact calm_runtimePanic _ | with_reducible exact calm_boundsPanic _ _ _ _ | with_reducible exact calm_askRoom _ | with_reducible exact calm_asIntOf _ | with_reducible exact calm_asInt _ | with_reducible exact calm_asBool _ | with_reducible exact calm_asAgg _ | with_reducible exact calm_sureAddr _ | with_reducible exact calm_asAddr _ | with_reducible exact calm_noRoom | with_reducible refine calm_map ?_ | with_reducible refine Calm.bind ?_ fun _ => ?_ | split | dsimp only
theorem calm_floatCmp (o : BinOp) (k : FloatKind) (x y : Nat) : Calm P (Op.floatCmp o k x y) := by
  unfold Op.floatCmp
  repeat' first | with_reducible exact calm_pure _ | with_reducible exact calm_stuck _ | ((with_reducible refine calm_unsupported _ ?_); rfl) | with_reducible exact calm_goPanic _ | with_reducible exact calm_load _ | with_reducible exact calm_store _ _ | ((with_reducible refine calm_getObj _ (fun _ => ?_) ?_); rotate_left; focus (intro _ _; rfl)) | with_reducible exact calm_setMap _ _ _ | with_reducible exact calm_choose _ | with_reducible exact calm_typeInfo _ | with_reducible exact calm_underlying _ | with_reducible exact calm_zeroValue _ | with_reducible exact calm_sizeOf _ | with_reducible exact calm_isAgg _ | with_reducible exact calm_loadCells _ _ | with_reducible exact calm_storeCells _ _ _ | with_reducible exact calm_loadVar _ _ | with_reducible exact calm_newRow _ _ | with_reducible exact calm_newVar _ _ | with_reducible exact calm_elemOf _ | with_reducible exact calm_part _ _ _ | with_reducible exact calm_runtimePanic _ | with_reducible exact calm_boundsPanic _ _ _ _ | with_reducible exact calm_askRoom _ | with_reducible exact calm_asIntOf _ | with_reducible exact calm_asInt _ | with_reducible exact calm_asBool _ | with_reducible exact calm_asAgg _ | with_reducible exact calm_sureAddr _ | with_reducible exact calm_asAddr _ | with_reducible exact calm_noRoom | with_reducible refine calm_map ?_ | with_reducible refine Calm.bind ?_ fun _ => ?_ | split | dsimp only
theorem calm_floatToFloat (s : FloatKind) (b : Nat) (d : FloatKind) : Calm P (Conv.floatToFloat s b d) := by
  unfold Conv.floatToFloat
  repeat' first | with_reducible exact calm_pure _ | with_reducible exact calm_stuck _ | ((with_reducible refine calm_unsupported _ ?_); rfl) | with_reducible exact calm_goPanic _ | with_reducible exact calm_load _ | with_reducible exact calm_store _ _ | ((with_reducible refine calm_getObj _ (fun _ => ?_) ?_); rotate_left; focus (intro _ _; rfl)) | with_reducible exact calm_setMap _ _ _ | with_reducible exact calm_choose _ | with_reducible exact calm_typeInfo _ | with_reducible exact calm_underlying _ | with_reducible exact calm_zeroValue _ | with_reducible exact calm_sizeOf _ | with_reducible exact calm_isAgg _ | with_reducible exact calm_loadCells _ _ | with_reducible exact calm_storeCells _ _ _ | with_reducible exact calm_loadVar _ _ | with_reducible exact calm_newRow _ _ | with_reducible exact calm_newVar _ _ | with_reducible exact calm_elemOf _ | with_reducible exact calm_part _ _ _ | with_reducible exact calm_runtimePanic _ | with_reducible exact calm_boundsPanic _ _ _ _ | with_reducible exact calm_askRoom _ | with_reducible exact calm_asIntOf _ | with_reducible exact calm_asInt _ | with_reducible exact calm_asBool _ | with_reducible exact calm_asAgg _ | with_reducible exact calm_sureAddr _ | with_reducible exact calm_asAddr _ | with_reducible exact calm_noRoom | with_reducible refine calm_map ?_ | with_reducible refine Calm.bind ?_ fun _ => ?_ | split | dsimp only
theorem calm_cplArith (o : BinOp) (k : FloatKind) (x y : Nat) : Calm P (Op.Complex.arith o k x y) := by
  unfold Op.Complex.arith
  repeat' first | with_reducible exact calm_floatArith _ _ _ _ | with_reducible exact calm_pure _ | with_reducible exact calm_stuck _ | ((with_reducible refine calm_unsupported _ ?_); rfl) | with_reducible exact calm_goPanic _ | with_reducible exact calm_load _ | with_reducible exact calm_store _ _ | ((with_reducible refine calm_getObj _ (fun _ => ?_) ?_); rotate_left; focus (intro _ _; rfl)) | with_reducible exact calm_setMap _ _ _ | with_reducible exact calm_choose _ | with_reducible exact calm_typeInfo _ | with_reducible exact calm_underlying _ | with_reducible exact calm_zeroValue _ | with_reducible exact calm_sizeOf _ | with_reducible exact calm_isAgg _ | with_reducible exact calm_loadCells _ _ | with_reducible exact calm_storeCells _ _ _ | with_reducible exact calm_loadVar _ _ | with_reducible exact calm_newRow _ _ | with_reducible exact calm_newVar _ _ | with_reducible exact calm_elemOf _ | with_reducible exact calm_part _ _ _ | with_reducible exact calm_runtimePanic _ | with_reducible exact calm_boundsPanic _ _ _ _ | with_reducible exact calm_askRoom _ | with_reducible exact calm_asIntOf _ | with_reducible exact calm_asInt _ | with_reducible exact calm_asBool _ | with_reducible exact calm_asAgg _ | with_reducible exact calm_sureAddr _ | with_reducible exact calm_asAddr _ | with_reducible exact calm_noRoom | with_reducible refine calm_map ?_ | with_reducible refine Calm.bind ?_ fun _ => ?_ | split | dsimp only
theorem calm_cplCmp (o : BinOp) (k : FloatKind) (x y : Nat) : Calm P (Op.Complex.cmp o k x y) := by
  unfold Op.Complex.cmp
  repeat' first | with_reducible exact calm_floatCmp _ _ _ _ | with_reducible exact calm_pure _ | with_reducible exact calm_stuck _ | ((with_reducible refine calm_unsupported _ ?_); rfl) | with_reducible exact calm_goPanic _ | with_reducible exact calm_load _ | with_reducible exact calm_store _ _ | ((with_reducible refine calm_getObj _ (fun _ => ?_) ?_); rotate_left; focus (intro _ _; rfl)) | with_reducible exact calm_setMap _ _ _ | with_reducible exact calm_choose _ | with_reducible exact calm_typeInfo _ | with_reducible exact calm_underlying _ | with_reducible exact calm_zeroValue _ | with_reducible exact calm_sizeOf _ | with_reducible exact calm_isAgg _ | with_reducible exact calm_loadCells _ _ | with_reducible exact calm_storeCells _ _ _ | with_reducible exact calm_loadVar _ _ | with_reducible exact calm_newRow _ _ | with_reducible exact calm_newVar _ _ | with_reducible exact calm_elemOf _ | with_reducible exact calm_part _ _ _ | with_reducible exact calm_runtimePanic _ | with_reducible exact calm_boundsPanic _ _ _ _ | with_reducible exact calm_askRoom _ | with_reducible exact calm_asIntOf _ | with_reducible exact calm_asInt _ | with_reducible exact calm_asBool _ | with_reducible exact calm_asAgg _ | with_reducible exact calm_sureAddr _ | with_reducible exact calm_asAddr _ | with_reducible exact calm_noRoom | with_reducible refine calm_map ?_ | with_reducible refine Calm.bind ?_ fun _ => ?_ | split | dsimp only
theorem calm_cplConv (s : FloatKind) (x : Nat) (d : FloatKind) : Calm P (Op.Complex.conv s x d) := by
  unfold Op.Complex.conv
  repeat' first | with_reducible exact calm_floatToFloat _ _ _ | with_reducible exact calm_pure _ | with_reducible exact calm_stuck _ | ((with_reducible refine calm_unsupported _ ?_); rfl) | with_reducible exact calm_goPanic _ | with_reducible exact calm_load _ | with_reducible exact calm_store _ _ | ((with_reducible refine calm_getObj _ (fun _ => ?_) ?_); rotate_left; focus (intro _ _; rfl)) | with_reducible exact calm_setMap _ _ _ | with_reducible exact calm_choose _ | with_reducible exact calm_typeInfo _ | with_reducible exact calm_underlying _ | with_reducible exact calm_zeroValue _ | with_reducible exact calm_sizeOf _ | with_reducible exact calm_isAgg _ | with_reducible exact calm_loadCells _ _ | with_reducible exact calm_storeCells _ _ _ | with_reducible exact calm_loadVar _ _ | with_reducible exact calm_newRow _ _ | with_reducible exact calm_newVar _ _ | with_reducible exact calm_elemOf _ | with_reducible exact calm_part _ _ _ | with_reducible exact calm_runtimePanic _ | with_reducible exact calm_boundsPanic _ _ _ _ | with_reducible exact calm_askRoom _ | with_reducible exact calm_asIntOf _ | with_reducible exact calm_asInt _ | with_reducible exact calm_asBool _ | with_reducible exact calm_asAgg _ | with_reducible exact calm_sureAddr _ | with_reducible exact calm_asAddr _ | with_reducible exact calm_noRoom | with_reducible refine calm_map ?_ | with_reducible refine Calm.bind ?_ fun _ => ?_ | split | dsimp only
theorem calm_product (a b c d : Nat) : Calm P (Op.Complex.product a b c d) := by
  unfold Op.Complex.product Op.Complex.add Op.Complex.sub Op.Complex.mul
  repeat' first | with_reducible exact calm_cplArith _ _ _ _ | with_reducible exact calm_pure _ | with_reducible exact calm_stuck _ | ((with_reducible refine calm_unsupported _ ?_); rfl) | with_reducible exact calm_goPanic _ | with_reducible exact calm_load _ | with_reducible exact calm_store _ _ | ((with_reducible refine calm_getObj _ (fun _ => ?_) ?_); rotate_left; focus (intro _ _; rfl)) | with_reducible exact calm_setMap _ _ _ | with_reducible exact calm_choose _ | with_reducible exact calm_typeInfo _ | with_reducible exact calm_underlying _ | with_reducible exact calm_zeroValue _ | with_reducible exact calm_sizeOf _ | with_reducible exact calm_isAgg _ | with_reducible exact calm_loadCells _ _ | with_reducible exact calm_storeCells _ _ _ | with_reducible exact calm_loadVar _ _ | with_reducible exact calm_newRow _ _ | with_reducible exact calm_newVar _ _ | with_reducible exact calm_elemOf _ | with_reducible exact calm_part _ _ _ | with_reducible exact calm_runtimePanic _ | with_reducible exact calm_boundsPanic _ _ _ _ | with_reducible exact calm_askRoom _ | with_reducible exact calm_asIntOf _ | with_reducible exact calm_asInt _ | with_reducible exact calm_asBool _ | with_reducible exact calm_asAgg _ | with_reducible exact calm_sureAddr _ | with_reducible exact calm_asAddr _ | with_reducible exact calm_noRoom | with_reducible refine calm_map ?_ | with_reducible refine Calm.bind ?_ fun _ => ?_ | split | dsimp only
theorem calm_corrected (s a b c d : Nat) : Calm P (Op.Complex.corrected s a b c d) := by
  unfold Op.Complex.corrected Op.Complex.add Op.Complex.sub Op.Complex.mul
  repeat' first | with_reducible exact calm_cplArith _ _ _ _ | with_reducible exact calm_pure _ | with_reducible exact calm_stuck _ | ((with_reducible refine calm_unsupported _ ?_); rfl) | with_reducible exact calm_goPanic _ | with_reducible exact calm_load _ | with_reducible exact calm_store _ _ | ((with_reducible refine calm_getObj _ (fun _ => ?_) ?_); rotate_left; focus (intro _ _; rfl)) | with_reducible exact calm_setMap _ _ _ | with_reducible exact calm_choose _ | with_reducible exact calm_typeInfo _ | with_reducible exact calm_underlying _ | with_reducible exact calm_zeroValue _ | with_reducible exact calm_sizeOf _ | with_reducible exact calm_isAgg _ | with_reducible exact calm_loadCells _ _ | with_reducible exact calm_storeCells _ _ _ | with_reducible exact calm_loadVar _ _ | with_reducible exact calm_newRow _ _ | with_reducible exact calm_newVar _ _ | with_reducible exact calm_elemOf _ | with_reducible exact calm_part _ _ _ | with_reducible exact calm_runtimePanic _ | with_reducible exact calm_boundsPanic _ _ _ _ | with_reducible exact calm_askRoom _ | with_reducible exact calm_asIntOf _ | with_reducible exact calm_asInt _ | with_reducible exact calm_asBool _ | with_reducible exact calm_asAgg _ | with_reducible exact calm_sureAddr _ | with_reducible exact calm_asAddr _ | with_reducible exact calm_noRoom | with_reducible refine calm_map ?_ | with_reducible refine Calm.bind ?_ fun _ => ?_ | split | dsimp only
theorem calm_quotient (a b c d : Nat) : Calm P (Op.Complex.quotient a b c d) := by
  unfold Op.Complex.quotient Op.Complex.add Op.Complex.sub Op.Complex.mul Op.Complex.quo
  repeat' first | with_reducible exact calm_cplArith _ _ _ _ | with_reducible exact calm_cplCmp _ _ _ _ | with_reducible exact calm_corrected _ _ _ _ _ | with_reducible exact calm_pure _ | with_reducible exact calm_stuck _ | ((with_reducible refine calm_unsupported _ ?_); rfl) | with_reducible exact calm_goPanic _ | with_reducible exact calm_load _ | with_reducible exact calm_store _ _ | ((with_reducible refine calm_getObj _ (fun _ => ?_) ?_); rotate_left; focus (intro _ _; rfl)) | with_reducible exact calm_setMap _ _ _ | with_reducible exact calm_choose _ | with_reducible exact calm_typeInfo _ | with_reducible exact calm_underlying _ | with_reducible exact calm_zeroValue _ | with_reducible exact calm_sizeOf _ | with_reducible exact calm_isAgg _ | with_reducible exact calm_loadCells _ _ | with_reducible exact calm_storeCells _ _ _ | with_reducible exact calm_loadVar _ _ | with_reducible exact calm_newRow _ _ | with_reducible exact calm_newVar _ _ | with_reducible exact calm_elemOf _ | with_reducible exact calm_part _ _ _ | with_reducible exact calm_runtimePanic _ | with_reducible exact calm_boundsPanic _ _ _ _ | with_reducible exact calm_askRoom _ | with_reducible exact calm_asIntOf _ | with_reducible exact calm_asInt _ | with_reducible exact calm_asBool _ | with_reducible exact calm_asAgg _ | with_reducible exact calm_sureAddr _ | with_reducible exact calm_asAddr _ | with_reducible exact calm_noRoom | with_reducible refine calm_map ?_ | with_reducible refine Calm.bind ?_ fun _ => ?_ | split | dsimp only
theorem calm_complexOp (o : BinOp) (k : FloatKind) (a b c d : Nat) : Calm P (Op.complexOp o k a b c d) := by
  unfold Op.complexOp
  repeat' first | with_reducible exact calm_cplArith _ _ _ _ | with_reducible exact calm_cplCmp _ _ _ _ | with_reducible exact calm_cplConv _ _ _ | with_reducible exact calm_product _ _ _ _ | with_reducible exact calm_quotient _ _ _ _ | with_reducible exact calm_pure _ | with_reducible exact calm_stuck _ | ((with_reducible refine calm_unsupported _ ?_); rfl) | with_reducible exact calm_goPanic _ | with_reducible exact calm_load _ | with_reducible exact calm_store _ _ | ((with_reducible refine calm_getObj _ (fun _ => ?_) ?_); rotate_left; focus (intro _ _; rfl)) | with_reducible exact calm_setMap _ _ _ | with_reducible exact calm_choose _ | with_reducible exact calm_typeInfo _ | with_reducible exact calm_underlying _ | with_reducible exact calm_zeroValue _ | with_reducible exact calm_sizeOf _ | with_reducible exact calm_isAgg _ | with_reducible exact calm_loadCells _ _ | with_reducible exact calm_storeCells _ _ _ | with_reducible exact calm_loadVar _ _ | with_reducible exact calm_newRow _ _ | with_reducible exact calm_newVar _ _ | with_reducible exact calm_elemOf _ | with_reducible exact calm_part _ _ _ | with_reducible exact calm_runtimePanic _ | with_reducible exact calm_boundsPanic _ _ _ _ | with_reducible exact calm_askRoom _ | with_reducible exact calm_asIntOf _ | with_reducible exact calm_asInt _ | with_reducible exact calm_asBool _ | with_reducible exact calm_asAgg _ | with_reducible exact calm_sureAddr _ | with_reducible exact calm_asAddr _ | with_reducible exact calm_noRoom | with_reducible refine calm_map ?_ | with_reducible refine Calm.bind ?_ fun _ => ?_ | split | dsimp only
theorem calm_stringOp (o : BinOp) (x y : ByteArray) : Calm P (Op.stringOp o x y) := by
  unfold Op.stringOp
  repeat' first | with_reducible exact calm_pure _ | with_reducible exact calm_stuck _ | ((with_reducible refine calm_unsupported _ ?_); rfl) | with_reducible exact calm_goPanic _ | with_reducible exact calm_load _ | with_reducible exact calm_store _ _ | ((with_reducible refine calm_getObj _ (fun _ => ?_) ?_); rotate_left; focus (intro _ _; rfl)) | with_reducible exact calm_setMap _ _ _ | with_reducible exact calm_choose _ | with_reducible exact calm_typeInfo _ | with_reducible exact calm_underlying _ | with_reducible exact calm_zeroValue _ | with_reducible exact calm_sizeOf _ | with_reducible exact calm_isAgg _ | with_reducible exact calm_loadCells _ _ | with_reducible exact calm_storeCells _ _ _ | with_reducible exact calm_loadVar _ _ | with_reducible exact calm_newRow _ _ | with_reducible exact calm_newVar _ _ | with_reducible exact calm_elemOf _ | with_reducible exact calm_part _ _ _ | with_reducible exact calm_runtimePanic _ | with_reducible exact calm_boundsPanic _ _ _ _ | with_reducible exact calm_askRoom _ | with_reducible exact calm_asIntOf _ | with_reducible exact calm_asInt _ | with_reducible exact calm_asBool _ | with_reducible exact calm_asAgg _ | with_reducible exact calm_sureAddr _ | with_reducible exact calm_asAddr _ | with_reducible exact calm_noRoom | with_reducible refine calm_map ?_ | with_reducible refine Calm.bind ?_ fun _ => ?_ | split | dsimp only
theorem calm_shift (o : BinOp) (k : IntKind) (x : Int) (j : IntKind) (y : Int) : Calm P (Op.shift o k x j y) := by
  unfold Op.shift
  repeat' first | with_reducible exact calm_pure _ | with_reducible exact calm_stuck _ | ((with_reducible refine calm_unsupported _ ?_); rfl) | with_reducible exact calm_goPanic _ | with_reducible exact calm_load _ | with_reducible exact calm_store _ _ | ((with_reducible refine calm_getObj _ (fun _ => ?_) ?_); rotate_left; focus (intro _ _; rfl)) | with_reducible exact calm_setMap _ _ _ | with_reducible exact calm_choose _ | with_reducible exact calm_typeInfo _ | with_reducible exact calm_underlying _ | with_reducible exact calm_zeroValue _ | with_reducible exact calm_sizeOf _ | with_reducible exact calm_isAgg _ | with_reducible exact calm_loadCells _ _ | with_reducible exact calm_storeCells _ _ _ | with_reducible exact calm_loadVar _ _ | with_reducible exact calm_newRow _ _ | with_reducible exact calm_newVar _ _ | with_reducible exact calm_elemOf _ | with_reducible exact calm_part _ _ _ | with_reducible exact calm_runtimePanic _ | with_reducible exact calm_boundsPanic _ _ _ _ | with_reducible exact calm_askRoom _ | with_reducible exact calm_asIntOf _ | with_reducible exact calm_asInt _ | with_reducible exact calm_asBool _ | with_reducible exact calm_asAgg _ | with_reducible exact calm_sureAddr _ | with_reducible exact calm_asAddr _ | with_reducible exact calm_noRoom | with_reducible refine calm_map ?_ | with_reducible refine Calm.bind ?_ fun _ => ?_ | split | dsimp only
theorem calm_intArith (o : BinOp) (k : IntKind) (x y : Int) : Calm P (Op.intArith o k x y) := by
  unfold Op.intArith
  repeat' first | with_reducible exact calm_pure _ | with_reducible exact calm_stuck _ | ((with_reducible refine calm_unsupported _ ?_); rfl) | with_reducible exact calm_goPanic _ | with_reducible exact calm_load _ | with_reducible exact calm_store _ _ | ((with_reducible refine calm_getObj _ (fun _ => ?_) ?_); rotate_left; focus (intro _ _; rfl)) | with_reducible exact calm_setMap _ _ _ | with_reducible exact calm_choose _ | with_reducible exact calm_typeInfo _ | with_reducible exact calm_underlying _ | with_reducible exact calm_zeroValue _ | with_reducible exact calm_sizeOf _ | with_reducible exact calm_isAgg _ | with_reducible exact calm_loadCells _ _ | with_reducible exact calm_storeCells _ _ _ | with_reducible exact calm_loadVar _ _ | with_reducible exact calm_newRow _ _ | with_reducible exact calm_newVar _ _ | with_reducible exact calm_elemOf _ | with_reducible exact calm_part _ _ _ | with_reducible exact calm_runtimePanic _ | with_reducible exact calm_boundsPanic _ _ _ _ | with_reducible exact calm_askRoom _ | with_reducible exact calm_asIntOf _ | with_reducible exact calm_asInt _ | with_reducible exact calm_asBool _ | with_reducible exact calm_asAgg _ | with_reducible exact calm_sureAddr _ | with_reducible exact calm_asAddr _ | with_reducible exact calm_noRoom | with_reducible refine calm_map ?_ | with_reducible refine Calm.bind ?_ fun _ => ?_ | split | dsimp only
theorem calm_intDiv (o : BinOp) (k : IntKind) (x y : Int) : Calm P (Op.intDiv o k x y) := by
  unfold Op.intDiv
  repeat' first | with_reducible exact calm_pure _ | with_reducible exact calm_stuck _ | ((with_reducible refine calm_unsupported _ ?_); rfl) | with_reducible exact calm_goPanic _ | with_reducible exact calm_load _ | with_reducible exact calm_store _ _ | ((with_reducible refine calm_getObj _ (fun _ => ?_) ?_); rotate_left; focus (intro _ _; rfl)) | with_reducible exact calm_setMap _ _ _ | with_reducible exact calm_choose _ | with_reducible exact calm_typeInfo _ | with_reducible exact calm_underlying _ | with_reducible exact calm_zeroValue _ | with_reducible exact calm_sizeOf _ | with_reducible exact calm_isAgg _ | with_reducible exact calm_loadCells _ _ | with_reducible exact calm_storeCells _ _ _ | with_reducible exact calm_loadVar _ _ | with_reducible exact calm_newRow _ _ | with_reducible exact calm_newVar _ _ | with_reducible exact calm_elemOf _ | with_reducible exact calm_part _ _ _ | with_reducible exact calm_runtimePanic _ | with_reducible exact calm_boundsPanic _ _ _ _ | with_reducible exact calm_askRoom _ | with_reducible exact calm_asIntOf _ | with_reducible exact calm_asInt _ | with_reducible exact calm_asBool _ | with_reducible exact calm_asAgg _ | with_reducible exact calm_sureAddr _ | with_reducible exact calm_asAddr _ | with_reducible exact calm_noRoom | with_reducible refine calm_map ?_ | with_reducible refine Calm.bind ?_ fun _ => ?_ | split | dsimp only
theorem calm_intBits (o : BinOp) (k : IntKind) (x y : Int) : Calm P (Op.intBits o k x y) := by
  unfold Op.intBits
  repeat' first | with_reducible exact calm_pure _ | with_reducible exact calm_stuck _ | ((with_reducible refine calm_unsupported _ ?_); rfl) | with_reducible exact calm_goPanic _ | with_reducible exact calm_load _ | with_reducible exact calm_store _ _ | ((with_reducible refine calm_getObj _ (fun _ => ?_) ?_); rotate_left; focus (intro _ _; rfl)) | with_reducible exact calm_setMap _ _ _ | with_reducible exact calm_choose _ | with_reducible exact calm_typeInfo _ | with_reducible exact calm_underlying _ | with_reducible exact calm_zeroValue _ | with_reducible exact calm_sizeOf _ | with_reducible exact calm_isAgg _ | with_reducible exact calm_loadCells _ _ | with_reducible exact calm_storeCells _ _ _ | with_reducible exact calm_loadVar _ _ | with_reducible exact calm_newRow _ _ | with_reducible exact calm_newVar _ _ | with_reducible exact calm_elemOf _ | with_reducible exact calm_part _ _ _ | with_reducible exact calm_runtimePanic _ | with_reducible exact calm_boundsPanic _ _ _ _ | with_reducible exact calm_askRoom _ | with_reducible exact calm_asIntOf _ | with_reducible exact calm_asInt _ | with_reducible exact calm_asBool _ | with_reducible exact calm_asAgg _ | with_reducible exact calm_sureAddr _ | with_reducible exact calm_asAddr _ | with_reducible exact calm_noRoom | with_reducible refine calm_map ?_ | with_reducible refine Calm.bind ?_ fun _ => ?_ | split | dsimp only
theorem calm_intCmp (o : BinOp) (x y : Int) : Calm P (Op.intCmp o x y) := by
  unfold Op.intCmp
  repeat' first | with_reducible exact calm_pure _ | with_reducible exact calm_stuck _ | ((with_reducible refine calm_unsupported _ ?_); rfl) | with_reducible exact calm_goPanic _ | with_reducible exact calm_load _ | with_reducible exact calm_store _ _ | ((with_reducible refine calm_getObj _ (fun _ => ?_) ?_); rotate_left; focus (intro _ _; rfl)) | with_reducible exact calm_setMap _ _ _ | with_reducible exact calm_choose _ | with_reducible exact calm_typeInfo _ | with_reducible exact calm_underlying _ | with_reducible exact calm_zeroValue _ | with_reducible exact calm_sizeOf _ | with_reducible exact calm_isAgg _ | with_reducible exact calm_loadCells _ _ | with_reducible exact calm_storeCells _ _ _ | with_reducible exact calm_loadVar _ _ | with_reducible exact calm_newRow _ _ | with_reducible exact calm_newVar _ _ | with_reducible exact calm_elemOf _ | with_reducible exact calm_part _ _ _ | with_reducible exact calm_runtimePanic _ | with_reducible exact calm_boundsPanic _ _ _ _ | with_reducible exact calm_askRoom _ | with_reducible exact calm_asIntOf _ | with_reducible exact calm_asInt _ | with_reducible exact calm_asBool _ | with_reducible exact calm_asAgg _ | with_reducible exact calm_sureAddr _ | with_reducible exact calm_asAddr _ | with_reducible exact calm_noRoom | with_reducible refine calm_map ?_ | with_reducible refine Calm.bind ?_ fun _ => ?_ | split | dsimp only
theorem calm_unary (o : UnOp) (x : Value) : Calm P (Op.unary o x) := by
  unfold Op.unary
  repeat' first | with_reducible exact calm_intArith _ _ _ _ | with_reducible exact calm_intBits _ _ _ _ | with_reducible exact calm_pure _ | with_reducible exact calm_stuck _ | ((with_reducible refine calm_unsupported _ ?_); rfl) | with_reducible exact calm_goPanic _ | with_reducible exact calm_load _ | with_reducible exact calm_store _ _ | ((with_reducible refine calm_getObj _ (fun _ => ?_) ?_); rotate_left; focus (intro _ _; rfl)) | with_reducible exact calm_setMap _ _ _ | with_reducible exact calm_choose _ | with_reducible exact calm_typeInfo _ | with_reducible exact calm_underlying _ | with_reducible exact calm_zeroValue _ | with_reducible exact calm_sizeOf _ | with_reducible exact calm_isAgg _ | with_reducible exact calm_loadCells _ _ | with_reducible exact calm_storeCells _ _ _ | with_reducible exact calm_loadVar _ _ | with_reducible exact calm_newRow _ _ | with_reducible exact calm_newVar _ _ | with_reducible exact calm_elemOf _ | with_reducible exact calm_part _ _ _ | with_reducible exact calm_runtimePanic _ | with_reducible exact calm_boundsPanic _ _ _ _ | with_reducible exact calm_askRoom _ | with_reducible exact calm_asIntOf _ | with_reducible exact calm_asInt _ | with_reducible exact calm_asBool _ | with_reducible exact calm_asAgg _ | with_reducible exact calm_sureAddr _ | with_reducible exact calm_asAddr _ | with_reducible exact calm_noRoom | with_reducible refine calm_map ?_ | with_reducible refine Calm.bind ?_ fun _ => ?_ | split | dsimp only
end
end Go.Proofs.Ytajheicheefpeaa

/- Which operations are calm: equality, comparisons, look-ups. -/
namespace Go.Proofs.Ytajheicheefpeaa
open Go.Conc
set_option linter.unusedSimpArgs false
set_option linter.unusedVariables false

section
variable {P : Program}
theorem calm_forIn_list {α β : Type} {f : α → β → Sem (ForInStep β)} : ∀ (l : List α) (b : β), (∀ a ∈ l, ∀ b, Calm P (f a b)) → Calm P (forIn l b f)
  | [], b, _ => by simp only [List.forIn_nil]; exact calm_pure _
  | a :: l, b, h => by
    simp only [List.forIn_cons]
    refine Calm.bind (h a (by simp) b) fun r => ?_
    split
    · exact calm_pure _
    · exact calm_forIn_list l _ fun a ha => h a (by simp [ha])
theorem calm_forIn_array {α β : Type} {f : α → β → Sem (ForInStep β)} (xs : Array α) (b : β) (h : ∀ a ∈ xs, ∀ b, Calm P (f a b)) : Calm P (forIn xs b f) := by
  rw [← Array.forIn_toList]
  exact calm_forIn_list _ _ fun a ha => h a (by simpa using ha)

theorem calm_equalIn_int {t : TypeId} {k : IntKind} (ht : P.underlying t = some (.int k)) (d : Nat) (x y : Value) : Calm P (Op.equalIn (d + 1) t x y) := by
  unfold Op.equalIn
  refine calm_underlying_at ht ?_
  repeat' first | contradiction | with_reducible exact calm_behindNumber _ | with_reducible exact calm_byteOf _ | with_reducible exact calm_program | with_reducible exact calm_pure _ | with_reducible exact calm_stuck _ | ((with_reducible refine calm_unsupported _ ?_); rfl) | with_reducible exact calm_goPanic _ | with_reducible exact calm_load _ | with_reducible exact calm_store _ _ | ((with_reducible refine calm_getObj _ (fun _ => ?_) ?_); rotate_left; focus (intro _ _; rfl)) | with_reducible exact calm_setMap _ _ _ | with_reducible exact calm_choose _ | with_reducible exact calm_typeInfo _ | with_reducible exact calm_underlying _ | with_reducible exact calm_zeroValue _ | with_reducible exact calm_sizeOf _ | with_reducible exact calm_isAgg _ | with_reducible exact calm_loadCells _ _ | with_reducible exact calm_storeCells _ _ _ | with_reducible exact calm_loadVar _ _ | with_reducible exact calm_newRow _ _ | with_reducible exact calm_newVar _ _ | with_reducible exact calm_elemOf _ | with_reducible exact calm_part _ _ _ | with_reducible exact calm_runtimePanic _ | with_reducible exact calm_boundsPanic _ _ _ _ | with_reducible exact calm_askRoom _ | with_reducible exact calm_asIntOf _ | with_reducible exact calm_asInt _ | with_reducible exact calm_asBool _ | with_reducible exact calm_asAgg _ | with_reducible exact calm_sureAddr _ | with_reducible exact calm_asAddr _ | with_reducible exact calm_noRoom | with_reducible refine calm_map ?_ | with_reducible refine Calm.bind ?_ fun _ => ?_ | split | dsimp only
theorem calm_equalIn_bool {t : TypeId} (ht : P.underlying t = some .bool) (d : Nat) (x y : Value) : Calm P (Op.equalIn (d + 1) t x y) := by
  unfold Op.equalIn
  refine calm_underlying_at ht ?_
  repeat' first | contradiction | with_reducible exact calm_pure _ | with_reducible exact calm_stuck _ | ((with_reducible refine calm_unsupported _ ?_); rfl) | with_reducible exact calm_goPanic _ | with_reducible exact calm_load _ | with_reducible exact calm_store _ _ | ((with_reducible refine calm_getObj _ (fun _ => ?_) ?_); rotate_left; focus (intro _ _; rfl)) | with_reducible exact calm_setMap _ _ _ | with_reducible exact calm_choose _ | with_reducible exact calm_typeInfo _ | with_reducible exact calm_underlying _ | with_reducible exact calm_zeroValue _ | with_reducible exact calm_sizeOf _ | with_reducible exact calm_isAgg _ | with_reducible exact calm_loadCells _ _ | with_reducible exact calm_storeCells _ _ _ | with_reducible exact calm_loadVar _ _ | with_reducible exact calm_newRow _ _ | with_reducible exact calm_newVar _ _ | with_reducible exact calm_elemOf _ | with_reducible exact calm_part _ _ _ | with_reducible exact calm_runtimePanic _ | with_reducible exact calm_boundsPanic _ _ _ _ | with_reducible exact calm_askRoom _ | with_reducible exact calm_asIntOf _ | with_reducible exact calm_asInt _ | with_reducible exact calm_asBool _ | with_reducible exact calm_asAgg _ | with_reducible exact calm_sureAddr _ | with_reducible exact calm_asAddr _ | with_reducible exact calm_noRoom | with_reducible refine calm_map ?_ | with_reducible refine Calm.bind ?_ fun _ => ?_ | split | dsimp only
theorem calm_equalIn_slice {t e : TypeId} (ht : P.underlying t = some (.slice e)) (d : Nat) (x y : Value) : Calm P (Op.equalIn (d + 1) t x y) := by
  unfold Op.equalIn
  refine calm_underlying_at ht ?_
  repeat' first | contradiction | with_reducible exact calm_pure _ | with_reducible exact calm_stuck _ | ((with_reducible refine calm_unsupported _ ?_); rfl) | with_reducible exact calm_goPanic _ | with_reducible exact calm_load _ | with_reducible exact calm_store _ _ | ((with_reducible refine calm_getObj _ (fun _ => ?_) ?_); rotate_left; focus (intro _ _; rfl)) | with_reducible exact calm_setMap _ _ _ | with_reducible exact calm_choose _ | with_reducible exact calm_typeInfo _ | with_reducible exact calm_underlying _ | with_reducible exact calm_zeroValue _ | with_reducible exact calm_sizeOf _ | with_reducible exact calm_isAgg _ | with_reducible exact calm_loadCells _ _ | with_reducible exact calm_storeCells _ _ _ | with_reducible exact calm_loadVar _ _ | with_reducible exact calm_newRow _ _ | with_reducible exact calm_newVar _ _ | with_reducible exact calm_elemOf _ | with_reducible exact calm_part _ _ _ | with_reducible exact calm_runtimePanic _ | with_reducible exact calm_boundsPanic _ _ _ _ | with_reducible exact calm_askRoom _ | with_reducible exact calm_asIntOf _ | with_reducible exact calm_asInt _ | with_reducible exact calm_asBool _ | with_reducible exact calm_asAgg _ | with_reducible exact calm_sureAddr _ | with_reducible exact calm_asAddr _ | with_reducible exact calm_noRoom | with_reducible refine calm_map ?_ | with_reducible refine Calm.bind ?_ fun _ => ?_ | split | dsimp only
theorem calm_equalIn_struct {t : TypeId} {fs : Array Field} (ht : P.underlying t = some (.struct fs)) (hf : ∀ f ∈ fs, ∃ k, P.underlying f.type = some (.int k)) (d : Nat) (x y : Value) : Calm P (Op.equalIn (d + 2) t x y) := by
  unfold Op.equalIn
  refine calm_underlying_at ht ?_
  have key : ∀ (f : Field) (xs ys : Array Value) , f ∈ fs → ∀ s : Option Bool × Unit, Calm P (if f.name ≠ "_" then (do
        let a ← part f.type xs f.offset
        let b ← part f.type ys f.offset
        let c ← Op.equalIn (d + 1) f.type a b
        if (!c) = true then pure (ForInStep.done (some false, ())) else pure (ForInStep.yield (none, ()))) else (pure (ForInStep.yield (none, ())) : Sem (ForInStep (Option Bool × Unit)))) := by
    intro f xs ys hm s
    obtain ⟨k, hk⟩ := hf f hm
    have := calm_equalIn_int hk d
    repeat' first | contradiction | with_reducible exact calm_behindNumber _ | with_reducible exact calm_byteOf _ | with_reducible exact calm_program | exact this _ _ | with_reducible exact calm_pure _ | with_reducible exact calm_stuck _ | ((with_reducible refine calm_unsupported _ ?_); rfl) | with_reducible exact calm_goPanic _ | with_reducible exact calm_load _ | with_reducible exact calm_store _ _ | ((with_reducible refine calm_getObj _ (fun _ => ?_) ?_); rotate_left; focus (intro _ _; rfl)) | with_reducible exact calm_setMap _ _ _ | with_reducible exact calm_choose _ | with_reducible exact calm_typeInfo _ | with_reducible exact calm_underlying _ | with_reducible exact calm_zeroValue _ | with_reducible exact calm_sizeOf _ | with_reducible exact calm_isAgg _ | with_reducible exact calm_loadCells _ _ | with_reducible exact calm_storeCells _ _ _ | with_reducible exact calm_loadVar _ _ | with_reducible exact calm_newRow _ _ | with_reducible exact calm_newVar _ _ | with_reducible exact calm_elemOf _ | with_reducible exact calm_part _ _ _ | with_reducible exact calm_runtimePanic _ | with_reducible exact calm_boundsPanic _ _ _ _ | with_reducible exact calm_askRoom _ | with_reducible exact calm_asIntOf _ | with_reducible exact calm_asInt _ | with_reducible exact calm_asBool _ | with_reducible exact calm_asAgg _ | with_reducible exact calm_sureAddr _ | with_reducible exact calm_asAddr _ | with_reducible exact calm_noRoom | with_reducible refine calm_map ?_ | with_reducible refine Calm.bind ?_ fun _ => ?_ | split | dsimp only
  repeat' first | contradiction | with_reducible exact calm_behindNumber _ | with_reducible exact calm_byteOf _ | with_reducible exact calm_program | with_reducible refine Calm.bind (calm_forIn_array _ _ (fun f hm s => key f _ _ (by simp_all) s)) fun _ => ?_ | with_reducible exact calm_program | with_reducible exact calm_pure _ | with_reducible exact calm_stuck _ | ((with_reducible refine calm_unsupported _ ?_); rfl) | with_reducible exact calm_goPanic _ | with_reducible exact calm_load _ | with_reducible exact calm_store _ _ | ((with_reducible refine calm_getObj _ (fun _ => ?_) ?_); rotate_left; focus (intro _ _; rfl)) | with_reducible exact calm_setMap _ _ _ | with_reducible exact calm_choose _ | with_reducible exact calm_typeInfo _ | with_reducible exact calm_underlying _ | with_reducible exact calm_zeroValue _ | with_reducible exact calm_sizeOf _ | with_reducible exact calm_isAgg _ | with_reducible exact calm_loadCells _ _ | with_reducible exact calm_storeCells _ _ _ | with_reducible exact calm_loadVar _ _ | with_reducible exact calm_newRow _ _ | with_reducible exact calm_newVar _ _ | with_reducible exact calm_elemOf _ | with_reducible exact calm_part _ _ _ | with_reducible exact calm_runtimePanic _ | with_reducible exact calm_boundsPanic _ _ _ _ | with_reducible exact calm_askRoom _ | with_reducible exact calm_asIntOf _ | with_reducible exact calm_asInt _ | with_reducible exact calm_asBool _ | with_reducible exact calm_asAgg _ | with_reducible exact calm_sureAddr _ | with_reducible exact calm_asAddr _ | with_reducible exact calm_noRoom | with_reducible refine calm_map ?_ | with_reducible refine Calm.bind ?_ fun _ => ?_ | split | dsimp only
theorem calm_equal_int {t : TypeId} {k : IntKind} (ht : P.underlying t = some (.int k)) (x y : Value) : Calm P (Op.equal t x y) := calm_equalIn_int ht 9999 x y
theorem calm_equal_bool {t : TypeId} (ht : P.underlying t = some .bool) (x y : Value) : Calm P (Op.equal t x y) := calm_equalIn_bool ht 9999 x y
theorem calm_equal_slice {t e : TypeId} (ht : P.underlying t = some (.slice e)) (x y : Value) : Calm P (Op.equal t x y) := calm_equalIn_slice ht 9999 x y
theorem calm_equal_struct {t : TypeId} {fs : Array Field} (ht : P.underlying t = some (.struct fs)) (hf : ∀ f ∈ fs, ∃ k, P.underlying f.type = some (.int k)) (x y : Value) : Calm P (Op.equal t x y) := calm_equalIn_struct ht hf 9998 x y

end
end Go.Proofs.Ytajheicheefpeaa

/- Which operations are calm: all that the walked functions hold, but the calls. -/
namespace Go.Proofs.Ytajheicheefpeaa
open Go.Conc
set_option linter.unusedSimpArgs false
set_option linter.unusedVariables false

section
variable {P : Program}
/-- A type whose equality is calm. -/
def EqCalm (P : Program) (t : TypeId) : Prop := (∀ x y, Calm P (Op.equal t x y)) ∧ P.eqGuardType P.depth t = false ∧ ∀ x y, (x = .nilIface ∨ y = .nilIface) → Calm P (Op.eqGuardIn Op.maxDepth t x y)

theorem guard_flat {t : TypeId} {d : TypeDesc} (ht : P.underlying t = some d) (hd : ∀ ms, d ≠ .interface ms) (x y : Value) (h : x = .nilIface ∨ y = .nilIface) : Calm P (Op.eqGuardIn Op.maxDepth t x y) := by
  unfold Op.maxDepth Op.eqGuardIn
  refine calm_underlying_at ht ?_
  split
  · exact absurd rfl (hd _)
  · rcases h with h | h <;> cases h
  · rcases h with h | h <;> cases h
  · exact calm_pure _

theorem EqCalm.int {t : TypeId} {k : IntKind} (ht : P.underlying t = some (.int k)) (hg : P.eqGuardType P.depth t = false) : EqCalm P t := ⟨calm_equal_int ht, hg, guard_flat ht (by simp)⟩
theorem EqCalm.bool {t : TypeId} (ht : P.underlying t = some .bool) (hg : P.eqGuardType P.depth t = false) : EqCalm P t := ⟨calm_equal_bool ht, hg, guard_flat ht (by simp)⟩
theorem EqCalm.slice {t e : TypeId} (ht : P.underlying t = some (.slice e)) (hg : P.eqGuardType P.depth t = false) : EqCalm P t := ⟨calm_equal_slice ht, hg, guard_flat ht (by simp)⟩
theorem EqCalm.struct {t : TypeId} {fs : Array Field} (ht : P.underlying t = some (.struct fs)) (hf : ∀ f ∈ fs, ∃ k, P.underlying f.type = some (.int k)) (hg : P.eqGuardType P.depth t = false) : EqCalm P t := ⟨calm_equal_struct ht hf, hg, guard_flat ht (by simp)⟩

theorem calm_eqGuard {t : TypeId} (h : EqCalm P t) (op : BinOp) (x y : Operand) (a b : Value) : Calm P (eqGuard op t x y a b) := by
  have h2 := h.2.1
  have h3 := h.2.2 .nilIface .nilIface (.inl rfl)
  unfold eqGuard
  repeat' first | contradiction | (rw [h2]; exact calm_pure _) | with_reducible refine calm_prog ?_ | exact h3 | with_reducible exact calm_pure _ | with_reducible exact calm_stuck _ | ((with_reducible refine calm_unsupported _ ?_); rfl) | with_reducible exact calm_goPanic _ | with_reducible exact calm_load _ | with_reducible exact calm_store _ _ | ((with_reducible refine calm_getObj _ (fun _ => ?_) ?_); rotate_left; focus (intro _ _; rfl)) | with_reducible exact calm_setMap _ _ _ | with_reducible exact calm_choose _ | with_reducible exact calm_typeInfo _ | with_reducible exact calm_underlying _ | with_reducible exact calm_zeroValue _ | with_reducible exact calm_sizeOf _ | with_reducible exact calm_isAgg _ | with_reducible exact calm_loadCells _ _ | with_reducible exact calm_storeCells _ _ _ | with_reducible exact calm_loadVar _ _ | with_reducible exact calm_newRow _ _ | with_reducible exact calm_newVar _ _ | with_reducible exact calm_elemOf _ | with_reducible exact calm_part _ _ _ | with_reducible exact calm_runtimePanic _ | with_reducible exact calm_boundsPanic _ _ _ _ | with_reducible exact calm_askRoom _ | with_reducible exact calm_asIntOf _ | with_reducible exact calm_asInt _ | with_reducible exact calm_asBool _ | with_reducible exact calm_asAgg _ | with_reducible exact calm_sureAddr _ | with_reducible exact calm_asAddr _ | with_reducible exact calm_noRoom | with_reducible refine calm_map ?_ | with_reducible refine Calm.bind ?_ fun _ => ?_ | split | dsimp only
theorem calm_binOp {t : TypeId} (h : ∀ x y, Calm P (Op.equal t x y)) (op : BinOp) (a b : Value) : Calm P (binOp op t a b) := by
  unfold binOp
  repeat' first | contradiction | with_reducible exact h _ _ | with_reducible exact calm_shift _ _ _ _ _ | with_reducible exact calm_intArith _ _ _ _ | with_reducible exact calm_intDiv _ _ _ _ | with_reducible exact calm_intBits _ _ _ _ | with_reducible exact calm_intCmp _ _ _ | with_reducible exact calm_floatArith _ _ _ _ | with_reducible exact calm_floatCmp _ _ _ _ | with_reducible exact calm_complexOp _ _ _ _ _ _ | with_reducible exact calm_stringOp _ _ _ | with_reducible exact calm_movedPointer _ _ _ | with_reducible exact calm_movedNumber _ _ _ | with_reducible exact calm_addrSub _ _ _ | with_reducible exact calm_addrCmp _ _ _ | with_reducible exact calm_addrMod _ _ _ | with_reducible exact calm_behindNumber _ | with_reducible exact calm_pure _ | with_reducible exact calm_stuck _ | ((with_reducible refine calm_unsupported _ ?_); rfl) | with_reducible exact calm_goPanic _ | with_reducible exact calm_load _ | with_reducible exact calm_store _ _ | ((with_reducible refine calm_getObj _ (fun _ => ?_) ?_); rotate_left; focus (intro _ _; rfl)) | with_reducible exact calm_setMap _ _ _ | with_reducible exact calm_choose _ | with_reducible exact calm_typeInfo _ | with_reducible exact calm_underlying _ | with_reducible exact calm_zeroValue _ | with_reducible exact calm_sizeOf _ | with_reducible exact calm_isAgg _ | with_reducible exact calm_loadCells _ _ | with_reducible exact calm_storeCells _ _ _ | with_reducible exact calm_loadVar _ _ | with_reducible exact calm_newRow _ _ | with_reducible exact calm_newVar _ _ | with_reducible exact calm_elemOf _ | with_reducible exact calm_part _ _ _ | with_reducible exact calm_runtimePanic _ | with_reducible exact calm_boundsPanic _ _ _ _ | with_reducible exact calm_askRoom _ | with_reducible exact calm_asIntOf _ | with_reducible exact calm_asInt _ | with_reducible exact calm_asBool _ | with_reducible exact calm_asAgg _ | with_reducible exact calm_sureAddr _ | with_reducible exact calm_asAddr _ | with_reducible exact calm_noRoom | with_reducible refine calm_map ?_ | with_reducible refine Calm.bind ?_ fun _ => ?_ | split | dsimp only
theorem calm_floatToInt (s : FloatKind) (b : Nat) (d : IntKind) : Calm P (Conv.floatToInt s b d) := by
  unfold Conv.floatToInt
  repeat' first | contradiction | with_reducible exact calm_pure _ | with_reducible exact calm_stuck _ | ((with_reducible refine calm_unsupported _ ?_); rfl) | with_reducible exact calm_goPanic _ | with_reducible exact calm_load _ | with_reducible exact calm_store _ _ | ((with_reducible refine calm_getObj _ (fun _ => ?_) ?_); rotate_left; focus (intro _ _; rfl)) | with_reducible exact calm_setMap _ _ _ | with_reducible exact calm_choose _ | with_reducible exact calm_typeInfo _ | with_reducible exact calm_underlying _ | with_reducible exact calm_zeroValue _ | with_reducible exact calm_sizeOf _ | with_reducible exact calm_isAgg _ | with_reducible exact calm_loadCells _ _ | with_reducible exact calm_storeCells _ _ _ | with_reducible exact calm_loadVar _ _ | with_reducible exact calm_newRow _ _ | with_reducible exact calm_newVar _ _ | with_reducible exact calm_elemOf _ | with_reducible exact calm_part _ _ _ | with_reducible exact calm_runtimePanic _ | with_reducible exact calm_boundsPanic _ _ _ _ | with_reducible exact calm_askRoom _ | with_reducible exact calm_asIntOf _ | with_reducible exact calm_asInt _ | with_reducible exact calm_asBool _ | with_reducible exact calm_asAgg _ | with_reducible exact calm_sureAddr _ | with_reducible exact calm_asAddr _ | with_reducible exact calm_noRoom | with_reducible refine calm_map ?_ | with_reducible refine Calm.bind ?_ fun _ => ?_ | split | dsimp only
theorem calm_convert {s d : TypeId} {j k : IntKind} (hs : P.underlying s = some (.int j)) (hd : P.underlying d = some (.int k)) (x : Value) : Calm P (convert s d x) := by
  unfold convert
  refine calm_underlying_at hs (calm_underlying_at hd ?_)
  repeat' first | contradiction | (unfold Conv.intToInt; exact calm_pure _) | with_reducible exact calm_floatToInt _ _ _ | with_reducible exact calm_pure _ | with_reducible exact calm_pure _ | with_reducible exact calm_stuck _ | ((with_reducible refine calm_unsupported _ ?_); rfl) | with_reducible exact calm_goPanic _ | with_reducible exact calm_load _ | with_reducible exact calm_store _ _ | ((with_reducible refine calm_getObj _ (fun _ => ?_) ?_); rotate_left; focus (intro _ _; rfl)) | with_reducible exact calm_setMap _ _ _ | with_reducible exact calm_choose _ | with_reducible exact calm_typeInfo _ | with_reducible exact calm_underlying _ | with_reducible exact calm_zeroValue _ | with_reducible exact calm_sizeOf _ | with_reducible exact calm_isAgg _ | with_reducible exact calm_loadCells _ _ | with_reducible exact calm_storeCells _ _ _ | with_reducible exact calm_loadVar _ _ | with_reducible exact calm_newRow _ _ | with_reducible exact calm_newVar _ _ | with_reducible exact calm_elemOf _ | with_reducible exact calm_part _ _ _ | with_reducible exact calm_runtimePanic _ | with_reducible exact calm_boundsPanic _ _ _ _ | with_reducible exact calm_askRoom _ | with_reducible exact calm_asIntOf _ | with_reducible exact calm_asInt _ | with_reducible exact calm_asBool _ | with_reducible exact calm_asAgg _ | with_reducible exact calm_sureAddr _ | with_reducible exact calm_asAddr _ | with_reducible exact calm_noRoom | with_reducible refine calm_map ?_ | with_reducible refine Calm.bind ?_ fun _ => ?_ | split | dsimp only
theorem calm_checkKey {t : TypeId} {k : IntKind} (ht : P.underlying t = some (.int k)) (b : Bool) (v : Value) : Calm P (Instr.checkKey b 10000 t v) := by
  show Calm P (Instr.checkKey b (9999 + 1) t v)
  unfold Instr.checkKey
  refine calm_underlying_at ht ?_
  repeat' first | contradiction | with_reducible exact calm_pure _ | with_reducible exact calm_stuck _ | ((with_reducible refine calm_unsupported _ ?_); rfl) | with_reducible exact calm_goPanic _ | with_reducible exact calm_load _ | with_reducible exact calm_store _ _ | ((with_reducible refine calm_getObj _ (fun _ => ?_) ?_); rotate_left; focus (intro _ _; rfl)) | with_reducible exact calm_setMap _ _ _ | with_reducible exact calm_choose _ | with_reducible exact calm_typeInfo _ | with_reducible exact calm_underlying _ | with_reducible exact calm_zeroValue _ | with_reducible exact calm_sizeOf _ | with_reducible exact calm_isAgg _ | with_reducible exact calm_loadCells _ _ | with_reducible exact calm_storeCells _ _ _ | with_reducible exact calm_loadVar _ _ | with_reducible exact calm_newRow _ _ | with_reducible exact calm_newVar _ _ | with_reducible exact calm_elemOf _ | with_reducible exact calm_part _ _ _ | with_reducible exact calm_runtimePanic _ | with_reducible exact calm_boundsPanic _ _ _ _ | with_reducible exact calm_askRoom _ | with_reducible exact calm_asIntOf _ | with_reducible exact calm_asInt _ | with_reducible exact calm_asBool _ | with_reducible exact calm_asAgg _ | with_reducible exact calm_sureAddr _ | with_reducible exact calm_asAddr _ | with_reducible exact calm_noRoom | with_reducible refine calm_map ?_ | with_reducible refine Calm.bind ?_ fun _ => ?_ | split | dsimp only
theorem calm_findAsking {t : TypeId} {k : IntKind} (ht : P.underlying t = some (.int k)) (v : Value) : ∀ (es : List MapEntry) (i : Nat), Calm P (Instr.findAsking t v es i)
  | [], _ => calm_pure _
  | e :: es, i => by
    unfold Instr.findAsking
    refine Calm.bind (calm_equal_int ht _ _) fun r => ?_
    split
    · exact calm_pure _
    · exact calm_findAsking ht v es _
theorem calm_findKey {t : TypeId} {k : IntKind} (ht : P.underlying t = some (.int k)) (v : Value) (es : List MapEntry) : Calm P (Instr.findKey t v es) := by
  unfold Instr.findKey
  repeat' first | contradiction | with_reducible exact calm_findAsking ht _ _ _ | with_reducible exact calm_pure _ | with_reducible exact calm_stuck _ | ((with_reducible refine calm_unsupported _ ?_); rfl) | with_reducible exact calm_goPanic _ | with_reducible exact calm_load _ | with_reducible exact calm_store _ _ | ((with_reducible refine calm_getObj _ (fun _ => ?_) ?_); rotate_left; focus (intro _ _; rfl)) | with_reducible exact calm_setMap _ _ _ | with_reducible exact calm_choose _ | with_reducible exact calm_typeInfo _ | with_reducible exact calm_underlying _ | with_reducible exact calm_zeroValue _ | with_reducible exact calm_sizeOf _ | with_reducible exact calm_isAgg _ | with_reducible exact calm_loadCells _ _ | with_reducible exact calm_storeCells _ _ _ | with_reducible exact calm_loadVar _ _ | with_reducible exact calm_newRow _ _ | with_reducible exact calm_newVar _ _ | with_reducible exact calm_elemOf _ | with_reducible exact calm_part _ _ _ | with_reducible exact calm_runtimePanic _ | with_reducible exact calm_boundsPanic _ _ _ _ | with_reducible exact calm_askRoom _ | with_reducible exact calm_asIntOf _ | with_reducible exact calm_asInt _ | with_reducible exact calm_asBool _ | with_reducible exact calm_asAgg _ | with_reducible exact calm_sureAddr _ | with_reducible exact calm_asAddr _ | with_reducible exact calm_noRoom | with_reducible refine calm_map ?_ | with_reducible refine Calm.bind ?_ fun _ => ?_ | split | dsimp only
theorem calm_lookup {t e q : TypeId} {k : IntKind} (ht : P.underlying t = some (.map q e)) (hq : P.underlying q = some (.int k)) (x i : Value) (c : Bool) : Calm P (Instr.lookup t x i c) := by
  unfold Instr.lookup
  refine calm_underlying_at ht ?_
  dsimp only
  repeat' first | contradiction | with_reducible exact calm_checkKey hq _ _ | with_reducible exact calm_findKey hq _ _ | with_reducible exact calm_pure _ | with_reducible exact calm_stuck _ | ((with_reducible refine calm_unsupported _ ?_); rfl) | with_reducible exact calm_goPanic _ | with_reducible exact calm_load _ | with_reducible exact calm_store _ _ | ((with_reducible refine calm_getObj _ (fun _ => ?_) ?_); rotate_left; focus (intro _ _; rfl)) | with_reducible exact calm_setMap _ _ _ | with_reducible exact calm_choose _ | with_reducible exact calm_typeInfo _ | with_reducible exact calm_underlying _ | with_reducible exact calm_zeroValue _ | with_reducible exact calm_sizeOf _ | with_reducible exact calm_isAgg _ | with_reducible exact calm_loadCells _ _ | with_reducible exact calm_storeCells _ _ _ | with_reducible exact calm_loadVar _ _ | with_reducible exact calm_newRow _ _ | with_reducible exact calm_newVar _ _ | with_reducible exact calm_elemOf _ | with_reducible exact calm_part _ _ _ | with_reducible exact calm_runtimePanic _ | with_reducible exact calm_boundsPanic _ _ _ _ | with_reducible exact calm_askRoom _ | with_reducible exact calm_asIntOf _ | with_reducible exact calm_asInt _ | with_reducible exact calm_asBool _ | with_reducible exact calm_asAgg _ | with_reducible exact calm_sureAddr _ | with_reducible exact calm_asAddr _ | with_reducible exact calm_noRoom | with_reducible refine calm_map ?_ | with_reducible refine Calm.bind ?_ fun _ => ?_ | split | dsimp only
theorem calm_keyThatStays (x y : Value) : Calm P (Instr.keyThatStays x y) := by
  unfold Instr.keyThatStays
  repeat' first | contradiction | with_reducible exact calm_pure _ | with_reducible exact calm_stuck _ | ((with_reducible refine calm_unsupported _ ?_); rfl) | with_reducible exact calm_goPanic _ | with_reducible exact calm_load _ | with_reducible exact calm_store _ _ | ((with_reducible refine calm_getObj _ (fun _ => ?_) ?_); rotate_left; focus (intro _ _; rfl)) | with_reducible exact calm_setMap _ _ _ | with_reducible exact calm_choose _ | with_reducible exact calm_typeInfo _ | with_reducible exact calm_underlying _ | with_reducible exact calm_zeroValue _ | with_reducible exact calm_sizeOf _ | with_reducible exact calm_isAgg _ | with_reducible exact calm_loadCells _ _ | with_reducible exact calm_storeCells _ _ _ | with_reducible exact calm_loadVar _ _ | with_reducible exact calm_newRow _ _ | with_reducible exact calm_newVar _ _ | with_reducible exact calm_elemOf _ | with_reducible exact calm_part _ _ _ | with_reducible exact calm_runtimePanic _ | with_reducible exact calm_boundsPanic _ _ _ _ | with_reducible exact calm_askRoom _ | with_reducible exact calm_asIntOf _ | with_reducible exact calm_asInt _ | with_reducible exact calm_asBool _ | with_reducible exact calm_asAgg _ | with_reducible exact calm_sureAddr _ | with_reducible exact calm_asAddr _ | with_reducible exact calm_noRoom | with_reducible refine calm_map ?_ | with_reducible refine Calm.bind ?_ fun _ => ?_ | split | dsimp only
theorem calm_mapUpdate {t e q : TypeId} {k : IntKind} (ht : P.underlying t = some (.map q e)) (hq : P.underlying q = some (.int k)) (x i v : Value) : Calm P (Instr.mapUpdate t x i v) := by
  unfold Instr.mapUpdate
  refine calm_underlying_at ht ?_
  dsimp only
  repeat' first | contradiction | with_reducible exact calm_checkKey hq _ _ | with_reducible exact calm_findKey hq _ _ | with_reducible exact calm_keyThatStays _ _ | with_reducible exact calm_pure _ | with_reducible exact calm_stuck _ | ((with_reducible refine calm_unsupported _ ?_); rfl) | with_reducible exact calm_goPanic _ | with_reducible exact calm_load _ | with_reducible exact calm_store _ _ | ((with_reducible refine calm_getObj _ (fun _ => ?_) ?_); rotate_left; focus (intro _ _; rfl)) | with_reducible exact calm_setMap _ _ _ | with_reducible exact calm_choose _ | with_reducible exact calm_typeInfo _ | with_reducible exact calm_underlying _ | with_reducible exact calm_zeroValue _ | with_reducible exact calm_sizeOf _ | with_reducible exact calm_isAgg _ | with_reducible exact calm_loadCells _ _ | with_reducible exact calm_storeCells _ _ _ | with_reducible exact calm_loadVar _ _ | with_reducible exact calm_newRow _ _ | with_reducible exact calm_newVar _ _ | with_reducible exact calm_elemOf _ | with_reducible exact calm_part _ _ _ | with_reducible exact calm_runtimePanic _ | with_reducible exact calm_boundsPanic _ _ _ _ | with_reducible exact calm_askRoom _ | with_reducible exact calm_asIntOf _ | with_reducible exact calm_asInt _ | with_reducible exact calm_asBool _ | with_reducible exact calm_asAgg _ | with_reducible exact calm_sureAddr _ | with_reducible exact calm_asAddr _ | with_reducible exact calm_noRoom | with_reducible refine calm_map ?_ | with_reducible refine Calm.bind ?_ fun _ => ?_ | split | dsimp only
theorem calm_followBlind : ∀ (l : List FieldStep) (t : TypeId) (x : Option Value), Calm P (followBlind l t x)
  | [], _, _ => calm_pure _
  | s :: l, t, x => by
    unfold followBlind
    have ih := calm_followBlind l
    repeat' first | contradiction | with_reducible exact ih _ _ | with_reducible exact calm_pure _ | with_reducible exact calm_stuck _ | ((with_reducible refine calm_unsupported _ ?_); rfl) | with_reducible exact calm_goPanic _ | with_reducible exact calm_load _ | with_reducible exact calm_store _ _ | ((with_reducible refine calm_getObj _ (fun _ => ?_) ?_); rotate_left; focus (intro _ _; rfl)) | with_reducible exact calm_setMap _ _ _ | with_reducible exact calm_choose _ | with_reducible exact calm_typeInfo _ | with_reducible exact calm_underlying _ | with_reducible exact calm_zeroValue _ | with_reducible exact calm_sizeOf _ | with_reducible exact calm_isAgg _ | with_reducible exact calm_loadCells _ _ | with_reducible exact calm_storeCells _ _ _ | with_reducible exact calm_loadVar _ _ | with_reducible exact calm_newRow _ _ | with_reducible exact calm_newVar _ _ | with_reducible exact calm_elemOf _ | with_reducible exact calm_part _ _ _ | with_reducible exact calm_runtimePanic _ | with_reducible exact calm_boundsPanic _ _ _ _ | with_reducible exact calm_askRoom _ | with_reducible exact calm_asIntOf _ | with_reducible exact calm_asInt _ | with_reducible exact calm_asBool _ | with_reducible exact calm_asAgg _ | with_reducible exact calm_sureAddr _ | with_reducible exact calm_asAddr _ | with_reducible exact calm_noRoom | with_reducible refine calm_map ?_ | with_reducible refine Calm.bind ?_ fun _ => ?_ | split | dsimp only
theorem calm_nilAhead : ∀ (n : Nat) (t : TypeId) (v : Value) (s : String), Calm P (nilAhead n t v s)
  | 0, _, _, _ => calm_pure _
  | n + 1, t, v, s => by
    unfold nilAhead
    have ih := calm_nilAhead n
    repeat' first | contradiction | with_reducible exact ih _ _ _ | with_reducible exact calm_followBlind _ _ _ | with_reducible exact calm_pure _ | with_reducible exact calm_stuck _ | ((with_reducible refine calm_unsupported _ ?_); rfl) | with_reducible exact calm_goPanic _ | with_reducible exact calm_load _ | with_reducible exact calm_store _ _ | ((with_reducible refine calm_getObj _ (fun _ => ?_) ?_); rotate_left; focus (intro _ _; rfl)) | with_reducible exact calm_setMap _ _ _ | with_reducible exact calm_choose _ | with_reducible exact calm_typeInfo _ | with_reducible exact calm_underlying _ | with_reducible exact calm_zeroValue _ | with_reducible exact calm_sizeOf _ | with_reducible exact calm_isAgg _ | with_reducible exact calm_loadCells _ _ | with_reducible exact calm_storeCells _ _ _ | with_reducible exact calm_loadVar _ _ | with_reducible exact calm_newRow _ _ | with_reducible exact calm_newVar _ _ | with_reducible exact calm_elemOf _ | with_reducible exact calm_part _ _ _ | with_reducible exact calm_runtimePanic _ | with_reducible exact calm_boundsPanic _ _ _ _ | with_reducible exact calm_askRoom _ | with_reducible exact calm_asIntOf _ | with_reducible exact calm_asInt _ | with_reducible exact calm_asBool _ | with_reducible exact calm_asAgg _ | with_reducible exact calm_sureAddr _ | with_reducible exact calm_asAddr _ | with_reducible exact calm_noRoom | with_reducible refine calm_map ?_ | with_reducible refine Calm.bind ?_ fun _ => ?_ | split | dsimp only
end
end Go.Proofs.Ytajheicheefpeaa

/- The operations that a text of plain memory may hold, and what they yield. -/
namespace Go.Proofs.Ytajheicheefpeaa
open Go.Conc
set_option linter.unusedSimpArgs false
set_option linter.unusedVariables false

/-- What is known of the program's types and functions. -/
structure Kit (P : Program) where
  eqs : List TypeId
  eqOk : ∀ t ∈ eqs, EqCalm P t
  ints : List TypeId
  intOk : ∀ t ∈ ints, ∃ k, P.underlying t = some (.int k)
  maps : List TypeId
  mapOk : ∀ t ∈ maps, ∃ q e k, P.underlying t = some (.map q e) ∧ P.underlying q = some (.int k)
  fns : List FuncId
  fnOk : ∀ f ∈ fns, ∃ fn, P.funcs[f]? = some fn ∧ (fn.name == "runtime.NumGoroutine") = false ∧ fn.body.isNone = false

def okOp {P : Program} (K : Kit P) (o : Op) : Bool :=
  match o with
  | .move _ | .assign _ | .pick _ _ _ | .alloc _ | .box _ _ | .build _ _ | .buildSlice _ _ _ | .load _ _ | .store _ _ _ | .nilCheck _ | .unOp _ _ _ | .makeSlice _ _ _ | .slice _ _ _ _ _ | .fieldAddr _ _ _ | .indexAddr _ _ _ | .extract _ _ => true
  | .makeMap _ none => true
  | .binOp _ t _ _ _ => K.eqs.contains t
  | .convert s d _ => K.ints.contains s && K.ints.contains d
  | .lookup t _ _ _ | .mapUpdate t _ _ _ => K.maps.contains t
  | .call { callee := .builtin .len, .. } | .call { callee := .builtin .append, .. } => true
  | .call { callee := .value (.func f), .. } => K.fns.contains f
  | _ => false

/-- What such an operation may come to. -/
def NextOk {P : Program} (K : Kit P) : Next → Prop
  | .value _ | .skip => True
  | .enter f _ => f ∈ K.fns
  | _ => False

def Yields' (P : Program) (Q : Next → Prop) (s : Sem Next) : Prop := ∀ w n w', s.run P w = .ok n w' → Q n

section
variable {P : Program} (K : Kit P)

theorem value_yields {s : Sem Value} : Yields' P (NextOk K) (do pure (.value (← s))) := by
  intro w n w' h
  simp only [Sem.run_bind] at h
  cases hs : s.run P w with
  | ok v w1 =>
    rw [hs] at h
    simp [Result.andThen, Sem.run, pure] at h
    obtain ⟨rfl, _⟩ := h
    trivial
  | halt x w1 => rw [hs] at h; cases h
theorem skip_yields {s : Sem Unit} : Yields' P (NextOk K) (do s; pure .skip) := by
  intro w n w' h
  simp only [Sem.run_bind] at h
  cases hs : s.run P w with
  | ok v w1 =>
    rw [hs] at h
    simp [Result.andThen, Sem.run, pure] at h
    obtain ⟨rfl, _⟩ := h
    trivial
  | halt x w1 => rw [hs] at h; cases h

theorem pure_yields {n : Next} (h : NextOk K n) : Yields' P (NextOk K) (pure n) := by
  intro w m w' hr
  simp [Sem.run, pure] at hr
  obtain ⟨rfl, _⟩ := hr
  exact h
theorem halt_yields {α : Type} {x : Halt} {f : α → Sem Next} : Yields' P (NextOk K) ((.halt x : Sem α) >>= f) := by
  intro w m w' hr
  cases hr

theorem okOp_calm {o : Oper} {ρ : Operand → Value} (hρ : ∀ f, ρ (.func f) = .func (.func f) #[] #[]) (h : okOp K o.op = true) : Calm P (execOp ρ o) ∧ Yields' P (NextOk K) (execOp ρ o) := by
  unfold execOp
  cases ho : o.op with
  | move x => exact ⟨calm_pure _, pure_yields K trivial⟩
  | assign x => exact ⟨calm_pure _, pure_yields K trivial⟩
  | pick c a b =>
    refine ⟨Calm.bind (calm_asBool _) fun r => calm_pure _, ?_⟩
    intro w n w' hr
    simp only [Sem.run_bind] at hr
    cases hs : (asBool (ρ c)).run P w with
    | ok v w1 =>
      rw [hs] at hr
      simp [Result.andThen, Sem.run, pure] at hr
      obtain ⟨rfl, _⟩ := hr
      trivial
    | halt x w1 => rw [hs] at hr; cases hr
  | alloc t => exact ⟨Calm.bind (calm_alloc _ _) fun _ => calm_pure _, value_yields K⟩
  | box t x => exact ⟨Calm.bind (calm_box _ _) fun _ => calm_pure _, value_yields K⟩
  | build t ps => exact ⟨Calm.bind (calm_build _ _) fun _ => calm_pure _, value_yields K⟩
  | buildSlice t n ps => exact ⟨Calm.bind (calm_buildSlice _ _ _) fun _ => calm_pure _, value_yields K⟩
  | load t a => exact ⟨Calm.bind (calm_loadAt _ _) fun _ => calm_pure _, value_yields K⟩
  | store t a x => exact ⟨Calm.bind (calm_storeAt _ _ _) fun _ => calm_pure _, skip_yields K⟩
  | unOp u t x => exact ⟨Calm.bind (calm_unary _ _) fun _ => calm_pure _, value_yields K⟩
  | makeSlice t l c => exact ⟨Calm.bind (calm_makeSlice _ _ _) fun _ => calm_pure _, value_yields K⟩
  | slice t x lo hi mx => exact ⟨Calm.bind (calm_sliceAt _ _ _ _ _) fun _ => calm_pure _, value_yields K⟩
  | fieldAddr t x f => exact ⟨Calm.bind (calm_fieldAt _ _ _) fun _ => calm_pure _, value_yields K⟩
  | indexAddr t x i => exact ⟨Calm.bind (calm_indexAt _ _ _) fun _ => calm_pure _, value_yields K⟩
  | extract t i => exact ⟨Calm.bind (calm_extract _ _) fun _ => calm_pure _, value_yields K⟩
  | makeMap t r =>
    cases r with
    | none => exact ⟨Calm.bind (calm_makeMap _) fun _ => calm_pure _, value_yields K⟩
    | some r => rw [ho] at h; cases h
  | binOp op t x y yt =>
    rw [ho] at h
    have ht := K.eqOk t (by simpa [okOp] using h)
    exact ⟨Calm.bind (Calm.bind (calm_eqGuard ht _ _ _ _ _) fun _ => calm_binOp ht.1 _ _ _) fun _ => calm_pure _, value_yields K⟩
  | convert s d x =>
    rw [ho] at h
    simp only [okOp, Bool.and_eq_true, List.contains_iff_mem] at h
    obtain ⟨j, hj⟩ := K.intOk s h.1
    obtain ⟨k, hk⟩ := K.intOk d h.2
    exact ⟨Calm.bind (calm_convert hj hk _) fun _ => calm_pure _, value_yields K⟩
  | lookup t x i c =>
    rw [ho] at h
    obtain ⟨q, e, k, h1, h2⟩ := K.mapOk t (by simpa [okOp] using h)
    exact ⟨Calm.bind (calm_lookup h1 h2 _ _ _) fun _ => calm_pure _, value_yields K⟩
  | mapUpdate t x i v =>
    rw [ho] at h
    obtain ⟨q, e, k, h1, h2⟩ := K.mapOk t (by simpa [okOp] using h)
    exact ⟨Calm.bind (calm_mapUpdate h1 h2 _ _ _) fun _ => calm_pure _, skip_yields K⟩
  | nilCheck x =>
    dsimp only
    have e1 : ∀ {α : Type} (r : RuntimeError), Calm P (runtimePanic r : Sem α) := fun r => calm_runtimePanic r
    have e2 : Yields' P (NextOk K) (runtimePanic RuntimeError.nilDeref) := by
      intro w n w' hr
      simp [runtimePanic, goPanic, program, Sem.run] at hr
    split
    · exact ⟨e1 _, e2⟩
    · exact ⟨e1 _, e2⟩
    · exact ⟨e1 _, e2⟩
    · split
      · exact ⟨e1 _, e2⟩
      · refine ⟨?_, ?_⟩
        · refine calm_prog ?_
          repeat' first | with_reducible exact calm_pure _ | ((with_reducible refine calm_unsupported _ ?_); rfl) | with_reducible exact calm_nilAhead _ _ _ _ | with_reducible refine Calm.bind ?_ fun _ => ?_ | split | dsimp only
        · intro w n w' hr
          simp only [Sem.run_bind, program, Sem.run, Result.andThen] at hr
          split at hr
          · split at hr
            · simp [unsupported, Sem.run] at hr
            · simp [Sem.run, pure] at hr
              obtain ⟨rfl, _⟩ := hr
              trivial
          · cases hr
      · exact ⟨calm_pure _, pure_yields K trivial⟩
    · exact ⟨calm_pure _, pure_yields K trivial⟩
  | call c =>
    rw [ho] at h
    obtain ⟨callee, args, ats⟩ := c
    cases callee with
    | value f =>
      cases f with
      | func f =>
        have hf : f ∈ K.fns := by simpa [okOp] using h
        obtain ⟨fn, h1, h2, h3⟩ := K.fnOk f hf
        have e : (do let d ← resolve ρ { callee := .value (.func f), args := args, argTypes := ats } o.type; invoke d.target d.args) = callFunc f ((#[] ++ args.map ρ) ++ #[]) := by
          simp only [resolve, hρ, Deferred.ofValue]
          rfl
        dsimp only
        rw [e]
        have e2 : callFunc f ((#[] ++ args.map ρ) ++ #[]) = Sem.program fun p => (match p.funcs[f]? with
          | none => stuck "call: no such function"
          | some fn =>
            if fn.name == "runtime.NumGoroutine" then pure .numGoroutine
            else if fn.body.isNone then do
              mark (.extern f)
              if let some e := Extern.findNext fn then return ← e ((#[] ++ args.map ρ) ++ #[])
              match Extern.find fn with
              | some e => pure (.value (← e ((#[] ++ args.map ρ) ++ #[])))
              | none =>
                if fn.name.endsWith ".init" && !fn.name.startsWith "(" && !fn.name.startsWith "gosem." then pure (.value (.tuple #[]))
                else unsupported (.extern fn.name)
            else pure (.enter f ((#[] ++ args.map ρ) ++ #[])) : Sem Next) := rfl
        rw [e2]
        refine ⟨?_, ?_⟩
        · show Calm P _
          unfold Calm
          simp only [h1, h2, h3, Bool.false_eq_true, if_false]
          exact calm_pure _
        · intro w n w' hr
          simp only [Sem.run, h1, h2, h3, Bool.false_eq_true, if_false] at hr
          simp [Sem.run, pure] at hr
          obtain ⟨rfl, _⟩ := hr
          exact hf
      | tmp t => cases h
      | const v => cases h
      | global g => cases h
    | invoke r m => cases h
    | builtin b =>
      cases b <;> first | (cases h; done) | skip
      · change Calm P (do pure (Next.value (← Builtin.append_ ats o.type (args.map ρ)))) ∧ Yields' P (NextOk K) (do pure (Next.value (← Builtin.append_ ats o.type (args.map ρ))))
        exact ⟨Calm.bind (calm_append _ _ _) fun _ => calm_pure _, value_yields K⟩
      · change Calm P (do pure (Next.value (← Builtin.len_ ats o.type (args.map ρ)))) ∧ Yields' P (NextOk K) (do pure (Next.value (← Builtin.len_ ats o.type (args.map ρ))))
        exact ⟨Calm.bind (calm_len _ _ _) fun _ => calm_pure _, value_yields K⟩
  | _ => rw [ho] at h; cases h
end
end Go.Proofs.Ytajheicheefpeaa

/- A goroutine whose frames hold plain texts alone: its steps, one by one, whatever lies beneath its frames. -/
namespace Go.Proofs.Ytajheicheefpeaa
open Go.Conc
set_option linter.unusedSimpArgs false
set_option linter.unusedVariables false

/-- A frame that runs a plain text, or is on its way out. -/
structure TF where
  fn : FuncId
  tmps : Array Value
  todo : List Item
  ret : Bool := false

def TF.fr (f : TF) (k : List Item) : Frame := { fn := f.fn, tmps := f.tmps, todo := f.todo ++ k, defers := [], mode := if f.ret then .returning else .run, kind := .normal }

/-- The frames of a stack: the last one has k behind its own text, cs beneath it. -/
def frs (k : List Item) (cs : List Frame) : List TF → List Frame
  | [] => cs
  | [b] => b.fr k :: cs
  | f :: g :: r => f.fr [] :: frs k cs (g :: r)

def gg (fr : Frame) (cs : List Frame) : Goroutine := { frame := fr, callers := cs, status := .running, dying := none }

def mkG : List Frame → Goroutine
  | [] => default
  | f :: r => gg f r

def kOf (k : List Item) : List TF → List Item
  | [] => k
  | _ :: _ => []

theorem frs_cons (k : List Item) (cs : List Frame) (f : TF) (r : List TF) : frs k cs (f :: r) = f.fr (kOf k r) :: frs k cs r := by
  cases r <;> rfl

section
variable {P : Program} (K : Kit P)

def okCode (ret : Bool) : List Nat → Code → Bool
  | _, .skip => true
  | _, .label _ => true
  | _, .region _ ops _ => ops.all fun o => okOp K o.op
  | ids, .seq a b => okCode ret ids a && okCode ret ids b
  | ids, .cond _ a b => okCode ret ids a && okCode ret ids b
  | ids, .block id c => okCode ret (id :: ids) c
  | ids, .loop c => okCode ret ids c
  | ids, .exit id => ids.contains id
  | ids, .scope c => okCode ret ids c
  | _, .ret => ret
  | _, _ => false

def okItem (ret : Bool) (ids : List Nat) : Item → Bool
  | .code c => okCode K ret ids c
  | .inBlock _ => true
  | .inLoop c => okCode K ret ids c
  | .inScope c => okCode K ret ids c
  | .inRegion ops _ => ops.all fun o => okOp K o.op
  | _ => false

def idsOf : List Item → List Nat
  | [] => []
  | .inBlock id :: r => id :: idsOf r
  | _ :: r => idsOf r

def okItems (ret : Bool) : List Item → Bool
  | [] => true
  | x :: r => okItem K ret (idsOf r) x && okItems ret r

theorem okItems_cons {ret : Bool} {x : Item} {r : List Item} : okItems K ret (x :: r) = true ↔ okItem K ret (idsOf r) x = true ∧ okItems K ret r = true := by simp [okItems]

theorem exit_ok {ret : Bool} {id : Nat} : ∀ {l : List Item}, okItems K ret l = true → id ∈ idsOf l → ∃ l', exitTo id l = some l' ∧ okItems K ret l' = true ∧ ∀ k, exitTo id (l ++ k) = some (l' ++ k)
  | [], _, h => by simp [idsOf] at h
  | x :: r, ho, h => by
    obtain ⟨_, hr⟩ := (okItems_cons K).1 ho
    cases x with
    | inBlock id' =>
      by_cases e : id' = id
      · subst e
        exact ⟨r, by simp [exitTo], hr, fun k => by simp [exitTo]⟩
      · have h' : id ∈ idsOf r := by simpa [idsOf, Ne.symm e] using h
        obtain ⟨l', h1, h2, h3⟩ := exit_ok hr h'
        refine ⟨l', by simp [exitTo, e, h1], h2, fun k => by simp [exitTo, e, h3 k]⟩
    | _ =>
      obtain ⟨l', h1, h2, h3⟩ := exit_ok hr (by simpa [idsOf] using h)
      exact ⟨l', by simp [exitTo, h1], h2, fun k => by simp [exitTo, h3 k]⟩

/-- A frame in order. -/
structure TF.Ok (ret : Bool) (f : TF) : Prop where
  items : okItems K ret f.todo = true
  fn : ∃ fn, P.funcs[f.fn]? = some fn
  rets : f.ret = true → ret = true

/-- A frame that waits for the return of a call. -/
def TF.Waits (f : TF) : Prop := f.ret = false ∧ ∃ ops i rest t, f.todo = .inRegion ops (i :: rest) :: t

/-- A stack in order: the frames but the last may return. -/
def StkOk (ret : Bool) : List TF → Prop
  | [] => True
  | [b] => b.Ok K ret
  | f :: g :: r => f.Ok K true ∧ g.Waits ∧ StkOk ret (g :: r)

theorem StkOk.top {ret : Bool} {f : TF} {r : List TF} (h : StkOk K ret (f :: r)) : f.Ok K (if r.isEmpty then ret else true) := by
  cases r with
  | nil => exact h
  | cons g r => exact h.1
theorem StkOk.rest {ret : Bool} {f : TF} {r : List TF} (h : StkOk K ret (f :: r)) : StkOk K ret r := by
  cases r with
  | nil => trivial
  | cons g r => exact h.2.2
theorem StkOk.swap {ret : Bool} {f f' : TF} {r : List TF} (h : StkOk K ret (f :: r)) (h' : f'.Ok K (if r.isEmpty then ret else true)) : StkOk K ret (f' :: r) := by
  cases r with
  | nil => exact h'
  | cons g r => exact ⟨h', h.2.1, h.2.2⟩

def TF.act (f : TF) : Act := ⟨f.tmps, []⟩
def TF.base (f : TF) : Frame := { (default : Frame) with fn := f.fn, kind := .normal }

theorem TF.fr_at {f : TF} (h : f.ret = false) (k : List Item) : f.fr k = f.base.at f.act (f.todo ++ k) := by
  simp [TF.fr, h, Frame.at, TF.base, TF.act]

theorem gg_eq (fr : Frame) (cs : List Frame) : gg fr cs = G fr cs := rfl

/-- How a step of the topmost frame looks. -/
inductive TopStep (ret : Bool) (f : TF) : Prop
  /-- a move of control -/
  | ctl (f' : TF) (ok : f'.Ok K ret) (st : ∀ k cs w main, stepG P main (gg (f.fr k) cs) w = .go (gg (f'.fr k) cs) w)
  /-- a region asks for its order -/
  | draw (f' : Nat → TF) (q : Question) (hq : q.forced = false) (ok : ∀ n, (f' n).Ok K ret) (st : ∀ k cs w main, stepG P main (gg (f.fr k) cs) w = .go (gg ((f' (q.cut (w.tape w.drawn q))).fr k) cs) { w with drawn := w.drawn + 1 })
  /-- an operation -/
  | op (s : Sem Next) (calm : Calm P s) (yields : Yields' P (NextOk K) s) (put : Value → TF) (ok : ∀ v, (put v).Ok K ret) (waits : f.Waits)
      (fin : ∀ k v, (f.fr k).finish v = (put v).fr k) (st : ∀ k cs w main, stepG P main (gg (f.fr k) cs) w = stepG.apply P true (f.fr k) cs none s w)
  /-- no step -/
  | dead (st : ∀ k cs w main, ∃ o es, stepG P main (gg (f.fr k) cs) w = .ended o w es)
  /-- its text is done -/
  | done (nil : f.todo = [])

theorem all_of {ops : Array Oper} (h : (ops.all fun o => okOp K o.op) = true) {i : Nat} {o : Oper} (ho : ops[i]? = some o) : okOp K o.op = true := by
  simp only [Array.all_eq_true_iff_forall_mem] at h
  exact h o (Array.mem_of_getElem? ho)

theorem topStep {ret : Bool} {f : TF} (hf : f.Ok K ret) (hr : f.ret = false) : TopStep K ret f := by
  obtain ⟨hi, hfn, _⟩ := hf
  obtain ⟨fn, tmps, todo, rt⟩ := f
  obtain rfl : rt = false := hr
  cases todo with
  | nil => exact .done rfl
  | cons x t =>
    obtain ⟨hx, ht⟩ := (okItems_cons K).1 hi
    have at_ : ∀ (T : Array Value) (l : List Item) (k : List Item), TF.fr ⟨fn, T, l, false⟩ k = ({ (default : Frame) with fn := fn, kind := .normal } : Frame).at ⟨T, []⟩ (l ++ k) := fun T l k => TF.fr_at rfl k
    cases x with
    | inBlock id => exact .ctl ⟨fn, tmps, t, false⟩ ⟨ht, hfn, fun e => by cases e⟩ fun k cs w main => by rw [at_, at_]; exact stepG_inBlock
    | inScope c => exact .ctl ⟨fn, tmps, t, false⟩ ⟨ht, hfn, fun e => by cases e⟩ fun k cs w main => by rw [at_, at_]; simp [gg, stepG, stepG.exec, Frame.at]
    | inLoop c =>
      refine .ctl ⟨fn, tmps, .code c :: .inLoop c :: t, false⟩ ⟨?_, hfn, fun e => by cases e⟩ fun k cs w main => by rw [at_, at_]; exact stepG_inLoop
      exact (okItems_cons K).2 ⟨hx, (okItems_cons K).2 ⟨hx, ht⟩⟩
    | inRegion ops l =>
      cases l with
      | nil => exact .ctl ⟨fn, tmps, t, false⟩ ⟨ht, hfn, fun e => by cases e⟩ fun k cs w main => by rw [at_, at_]; exact stepG_region_end
      | cons i rest =>
        have hok : okItems K ret (.inRegion ops rest :: t) = true := (okItems_cons K).2 ⟨hx, ht⟩
        cases ho : ops[i]? with
        | none =>
          refine .ctl ⟨fn, tmps, .inRegion ops rest :: t, false⟩ ⟨hok, hfn, fun e => by cases e⟩ fun k cs w main => ?_
          rw [at_, at_]
          simp [gg, stepG, stepG.exec, Frame.at, ho, Frame.finish]
        | some o =>
          by_cases hw : Region.wanted o (yielded ops tmps) = true
          · have hop := okOp_calm (K := K) (o := o) (ρ := Act.eval ⟨tmps, []⟩) (fun _ => rfl) (all_of K hx ho)
            refine .op (execOp (Act.eval ⟨tmps, []⟩) o) hop.1 hop.2 (fun v => ⟨fn, ((⟨tmps, []⟩ : Act).put o.dst v).tmps, .inRegion ops rest :: t, false⟩) (fun v => ⟨hok, hfn, fun e => by cases e⟩) ⟨rfl, ops, i, rest, t, rfl⟩ (fun k v => ?_) fun k cs w main => ?_
            · rw [at_, at_]
              have := Frame.finish_at ({ (default : Frame) with fn := fn, kind := .normal } : Frame) ⟨tmps, []⟩ ops i rest (t ++ k) v
              rw [ho] at this
              simp only [List.cons_append]
              rw [this]
              cases hd : o.dst <;> simp [Act.put, hd]
            · rw [at_]; exact stepG_oper ho hw
          · refine .ctl ⟨fn, ((⟨tmps, []⟩ : Act).put o.dst undef).tmps, .inRegion ops rest :: t, false⟩ ⟨hok, hfn, fun e => by cases e⟩ fun k cs w main => ?_
            rw [at_, at_]
            have hw' : Region.wanted o (yielded ops tmps) = false := by simpa using hw
            simp only [List.cons_append]
            refine (stepG_unwanted ho hw').trans ?_
            cases hd : o.dst <;> simp [Act.put, hd, gg, G]
    | code c =>
      cases c with
      | skip => exact .ctl ⟨fn, tmps, t, false⟩ ⟨ht, hfn, fun e => by cases e⟩ fun k cs w main => by rw [at_, at_]; exact stepG_skip
      | label l => exact .ctl ⟨fn, tmps, t, false⟩ ⟨ht, hfn, fun e => by cases e⟩ fun k cs w main => by rw [at_, at_]; exact stepG_label
      | seq a b =>
        simp only [okItem, okCode, Bool.and_eq_true] at hx
        exact .ctl ⟨fn, tmps, .code a :: .code b :: t, false⟩ ⟨(okItems_cons K).2 ⟨hx.1, (okItems_cons K).2 ⟨hx.2, ht⟩⟩, hfn, fun e => by cases e⟩ fun k cs w main => by rw [at_, at_]; exact stepG_seq
      | cond c a b =>
        simp only [okItem, okCode, Bool.and_eq_true] at hx
        by_cases hc : ∃ t, (Act.eval ⟨tmps, []⟩ c) = .bool t
        · obtain ⟨v, hv⟩ := hc
          exact .ctl ⟨fn, tmps, .code (if v then a else b) :: t, false⟩ ⟨(okItems_cons K).2 ⟨by cases v; exact hx.2; exact hx.1, ht⟩, hfn, fun e => by cases e⟩ fun k cs w main => by rw [at_, at_]; exact stepG_cond hv
        · refine .dead fun k cs w main => ?_
          rw [at_]
          have h' := Frame.eval_at ({ (default : Frame) with fn := fn, kind := .normal } : Frame) ⟨tmps, []⟩ (.code (.cond c a b) :: t ++ k) c
          cases hv : (Act.eval ⟨tmps, []⟩ c) with
          | bool v => exact absurd ⟨v, hv⟩ hc
          | _ =>
            rw [hv] at h'
            simp only [Frame.at, List.cons_append] at h'
            simp only [gg, stepG, stepG.exec, Frame.at, List.cons_append, h']
            exact ⟨_, _, rfl⟩
      | block id c => exact .ctl ⟨fn, tmps, .code c :: .inBlock id :: t, false⟩ ⟨(okItems_cons K).2 ⟨hx, (okItems_cons K).2 ⟨rfl, ht⟩⟩, hfn, fun e => by cases e⟩ fun k cs w main => by rw [at_, at_]; exact stepG_block
      | loop c => exact .ctl ⟨fn, tmps, .code c :: .inLoop c :: t, false⟩ ⟨(okItems_cons K).2 ⟨hx, (okItems_cons K).2 ⟨hx, ht⟩⟩, hfn, fun e => by cases e⟩ fun k cs w main => by rw [at_, at_]; exact stepG_loop
      | scope c => exact .ctl ⟨fn, tmps, .code c :: .inScope c :: t, false⟩ ⟨(okItems_cons K).2 ⟨hx, (okItems_cons K).2 ⟨hx, ht⟩⟩, hfn, fun e => by cases e⟩ fun k cs w main => by rw [at_, at_]; simp [gg, stepG, stepG.exec, Frame.at]
      | exit id =>
        obtain ⟨l', h1, h2, h3⟩ := exit_ok K (id := id) ht (by simpa [okItem, okCode] using hx)
        exact .ctl ⟨fn, tmps, l', false⟩ ⟨h2, hfn, fun e => by cases e⟩ fun k cs w main => by rw [at_, at_]; exact stepG_exit (h3 k)
      | ret =>
        refine .ctl ⟨fn, tmps, .code .ret :: t, true⟩ ⟨hi, hfn, fun _ => hx⟩ fun k cs w main => ?_
        simp [gg, stepG, stepG.exec, TF.fr]
      | region id ops d =>
        cases d with
        | false => exact .ctl ⟨fn, tmps, .inRegion ops (List.range ops.size) :: t, false⟩ ⟨(okItems_cons K).2 ⟨hx, ht⟩, hfn, fun e => by cases e⟩ fun k cs w main => by rw [at_, at_]; exact stepG_region
        | true =>
          refine .draw (fun n => ⟨fn, tmps, .inRegion ops (Region.schedule (P.follows .mixedOrders) ops n) :: t, false⟩) (.order fn id) rfl (fun n => ⟨(okItems_cons K).2 ⟨hx, ht⟩, hfn, fun e => by cases e⟩) fun k cs w main => ?_
          rw [at_, at_]
          exact stepG_region_draw
      | rangeFunc a b c d => cases hx
      | goto l => cases hx
      | refuse w => cases hx
    | inRangeFunc l => cases hx
    | endRangeFunc l => cases hx
    | beginRound => cases hx
    | call d w r s => cases hx
    | extern r a => cases hx
end
end Go.Proofs.Ytajheicheefpeaa

/- A stack of plain frames takes a step: the same beneath whatever frames, in the emptied world and in the other; or it never comes to its stop. -/
namespace Go.Proofs.Ytajheicheefpeaa
open Go.Conc
set_option linter.unusedSimpArgs false
set_option linter.unusedVariables false

/-- The frame beneath: whoever comes back to it, or falls into it, ends the run. -/
def doorWord : String := "fmt's door!"
theorem door_starts : (doorWord.startsWith "fmt's door") = true := by kernel_rfl
theorem door_none : Extern.next doorWord = none := by
  have h : (Extern.next doorWord).isNone = true := by kernel_rfl
  simpa using h

section
variable {P : Program}
variable (P) in
def catchF : Frame := { fn := P.funcs.size, tmps := #[], todo := [.call default false doorWord #[]], defers := [], mode := .run, kind := .normal }

theorem catch_fn : P.funcs[(catchF P).fn]? = none := by simp [catchF]

/-- A fallen frame falls on. -/
theorem stepG_fallen {fr c : Frame} {cs : List Frame} {chain : List PanicEntry} {w : World} (hm : fr.mode = .panicking chain) (hd : fr.defers = []) (hf : ∃ fn, P.funcs[fr.fn]? = some fn) :
    stepG P true (gg fr (c :: cs)) w = .go (gg (c.raise chain) cs) w := by
  obtain ⟨fn, hf⟩ := hf
  simp [gg, stepG, unwind, Frame.catches, hm, hd, hf]

theorem stepG_caught {chain : List PanicEntry} {w : World} : ∃ o es, stepG P true (gg ({ catchF P with mode := .panicking chain }) []) w = .ended o w es := by
  have hc : ({ catchF P with mode := .panicking chain } : Frame).catches P = true := by
    have e := catch_fn (P := P)
    simp only [catchF] at e
    simp only [Frame.catches, catchF, e, door_starts]
  simp only [catchF] at hc
  simp only [gg, stepG, unwind, catchF, hc, if_true]
  exact ⟨_, _, rfl⟩

theorem stepG_back {v : Value} {w : World} : ∃ o es, stepG P true (gg ((catchF P).finish v) []) w = .ended o w es := by
  simp only [gg, stepG, stepG.exec, catchF, Frame.finish, door_none, Option.elim]
  exact ⟨_, _, rfl⟩

/-- What lies behind the text: who comes there ends the run. -/
def sent : Item := .code (.refuse "the text's end")

/-- Where a stack of plain frames stops: its last frame has no text left, or is on its way out. -/
def Floor (ret : Bool) (f : TF) : Prop := f.ret = true ∨ f.todo = []

def Stp (fr : Frame) : Prop := fr.mode = .returning ∨ (fr.mode = .run ∧ fr.todo = [sent])

theorem stp_fr {ret : Bool} {f : TF} : Stp (f.fr [sent]) ↔ Floor ret f := by
  unfold Stp Floor TF.fr
  cases f.ret <;> simp

def StopM (P : Program) (ret : Bool) (m : Machine) : Prop := ∃ fr w, m = lone fr [catchF P] w ∧ Stp fr

def NoStop (P : Program) (ret : Bool) (m : Machine) : Prop := ∀ n m', runN P n m = .next m' → ¬ StopM P ret m'

theorem NoStop.ended {ret : Bool} {m : Machine} {o : Outcome} {w : World} (h0 : ¬ StopM P ret m) (h : step P m = .ended o w) : NoStop P ret m := by
  intro n m' hr
  cases n with
  | zero => simp only [runN] at hr; cases hr; exact h0
  | succ n => simp only [runN, h] at hr; cases hr
theorem NoStop.next {ret : Bool} {m m1 : Machine} (h0 : ¬ StopM P ret m) (h : step P m = .next m1) (h1 : NoStop P ret m1) : NoStop P ret m := by
  intro n m' hr
  cases n with
  | zero => simp only [runN] at hr; cases hr; exact h0
  | succ n => simp only [runN, h] at hr; exact h1 n m' hr

theorem step_gg {fr fr' : Frame} {cs cs' : List Frame} {w w' : World} {es : Array Event} (h : stepG P true (gg fr cs) w = .go (gg fr' cs') w' es) : step P (lone fr cs w) = .next (lone fr' cs' w') :=
  step_lone_go (by rw [show ({ frame := fr, callers := cs, status := .running, dying := none } : Goroutine) = gg fr cs from rfl, h]; rfl)
theorem step_gg_ended {fr : Frame} {cs : List Frame} {w w' : World} {o : Outcome} {es : Array Event} (h : stepG P true (gg fr cs) w = .ended o w' es) : step P (lone fr cs w) = .ended o w' :=
  step_lone_ended (by rw [show ({ frame := fr, callers := cs, status := .running, dying := none } : Goroutine) = gg fr cs from rfl, h]; rfl)

theorem lone_inj {fr fr' : Frame} {cs cs' : List Frame} {w w' : World} (h : lone fr cs w = lone fr' cs' w') : fr = fr' ∧ cs = cs' ∧ w = w' := by
  simp only [lone, Machine.mk.injEq, Array.mk.injEq, List.cons.injEq, Goroutine.mk.injEq, and_true] at h
  exact ⟨h.2.1, h.2.2, h.1⟩

theorem no_stop_bottom {ret : Bool} {fr : Frame} {w : World} : ¬ StopM P ret (lone fr [] w) := by
  rintro ⟨f, w', h, _⟩
  obtain ⟨_, h, _⟩ := lone_inj h
  cases h

theorem no_stop_fallen {ret : Bool} {fr : Frame} {cs : List Frame} {w : World} {chain : List PanicEntry} (hm : fr.mode = .panicking chain) : ¬ StopM P ret (lone fr cs w) := by
  rintro ⟨f, w', h, hs⟩
  obtain ⟨rfl, _, _⟩ := lone_inj h
  rcases hs with hs | ⟨hs, _⟩ <;> rw [hm] at hs <;> cases hs

/-- A fallen stack never comes to a stop. -/
theorem noStop_fallen {ret : Bool} {chain : List PanicEntry} : ∀ (l : List Frame) (fr : Frame) (w : World), fr.mode = .panicking chain → fr.defers = [] → (∃ fn, P.funcs[fr.fn]? = some fn) →
    (∀ c ∈ l, c.mode = .run ∧ c.defers = [] ∧ ∃ fn, P.funcs[c.fn]? = some fn) → NoStop P ret (lone fr (l ++ [catchF P]) w)
  | [], fr, w, hm, hd, hf, _ => by
    refine NoStop.next (no_stop_fallen hm) (step_gg (stepG_fallen hm hd hf)) ?_
    have e : (catchF P).raise chain = { catchF P with mode := .panicking chain } := rfl
    rw [e]
    obtain ⟨o, es, h⟩ := stepG_caught (P := P) (chain := chain) (w := w)
    exact NoStop.ended no_stop_bottom (step_gg_ended h)
  | c :: l, fr, w, hm, hd, hf, hl => by
    refine NoStop.next (no_stop_fallen hm) (step_gg (stepG_fallen hm hd hf)) ?_
    obtain ⟨h1, h2, h3⟩ := hl c (by simp)
    have e : c.raise chain = { c with mode := .panicking chain } := by simp [Frame.raise, h1]
    rw [e]
    exact noStop_fallen l _ w rfl h2 h3 fun x hx => hl x (by simp [hx])

theorem noStop_back {ret : Bool} {v : Value} {w : World} : NoStop P ret (lone ((catchF P).finish v) [] w) := by
  obtain ⟨o, es, h⟩ := stepG_back (P := P) (v := v) (w := w)
  exact NoStop.ended no_stop_bottom (step_gg_ended h)

/-- What a list of events keeps of what was listed. -/
theorem seen_sub {fn : FuncId} {es : Array Event} {e : Event} (h : e ∈ seen P fn es) : e ∈ es := by
  have key : ∀ (l : List Event) (q : Bool) (kept : Array Event), e ∈ (l.foldl (init := (q, kept)) fun (x : Bool × Array Event) (e : Event) => match x with
      | (q, kept) => match e.loc with
        | .mark (.extern f) => ((P.funcs[f]?).any (·.norace), kept)
        | _ => (q, if q && !e.sync then kept else kept.push e)).2 → e ∈ kept ∨ e ∈ l := by
    intro l
    induction l with
    | nil => intro q kept h; exact .inl h
    | cons x l ih =>
      intro q kept h
      simp only [List.foldl_cons] at h
      split at h
      · rcases ih _ _ h with h | h
        · exact .inl h
        · exact .inr (by simp [h])
      · rcases ih _ _ h with h | h
        · split at h
          · exact .inl h
          · rcases Array.mem_push.1 h with h | h
            · exact .inl h
            · exact .inr (by simp [h])
        · exact .inr (by simp [h])
  dsimp only [seen] at h
  rw [← Array.foldl_toList] at h
  rcases key _ _ _ h with h | h
  · simp at h
  · exact Array.mem_toList_iff.1 h
end

/-- A frame on its way out comes back to the frame that ends all. -/
theorem ret_back {P : Program} {ret : Bool} {g : TF} {k : List Item} {w : World} (hr : g.ret = true) (hg : ∃ fn, P.funcs[g.fn]? = some fn) : ∀ m1, step P (lone (g.fr k) [catchF P] w) = .next m1 → NoStop P ret m1 := by
  intro m1 h1
  obtain ⟨fn, hfn⟩ := hg
  have hstep : stepG P true (gg (g.fr k) [catchF P]) w = GStep.after (seen P g.fn ((results fn g.tmps).runT P w #[]).2) (match ((results fn g.tmps).runT P w #[]).1 with
        | .ok v w => doReturn P true (g.fr k) [catchF P] none v w
        | .halt (.stuck s) w => .ended (.stuck s ((g.fr k).pos P)) w
        | .halt _ w => .ended (.stuck "return: the result variables cannot be read" ((g.fr k).pos P)) w) := by
    simp [gg, stepG, unwind, TF.fr, hr, hfn]
    rfl
  cases hres : ((results fn g.tmps).runT P w #[]).1 with
  | ok v w1 =>
    rw [hres] at hstep
    have e : stepG P true (gg (g.fr k) [catchF P]) w = .go (gg ((catchF P).finish v) []) w1 (seen P g.fn ((results fn g.tmps).runT P w #[]).2) := by
      rw [hstep]
      simp [doReturn, TF.fr, gg, GStep.after]
    have := step_gg e
    rw [this] at h1
    injection h1 with h1
    rw [← h1]
    exact noStop_back
  | halt x w1 =>
    rw [hres] at hstep
    obtain ⟨q, es, hq⟩ : ∃ q es, stepG P true (gg (g.fr k) [catchF P]) w = .ended q w1 es := by
      rw [hstep]
      cases x <;> exact ⟨_, _, by simp only [GStep.after]; rfl⟩
    have := step_gg_ended hq
    rw [this] at h1
    cases h1

section
variable {P : Program} (K : Kit P)

/-- The stack at the one world goes to the other stack and world: so it goes beneath whatever frames, in whatever world that is alike. -/
def Goes1 (P : Program) (ret : Bool) (stk stk' : List TF) (w0 w0' : World) : Prop :=
  w0.drawn ≤ w0'.drawn ∧ w0'.tape = w0.tape ∧ NoPend w0' ∧
  ∀ (k : List Item) (cs : List Frame) (F : Nat → Prop) (w : World), Sim F w0 w → (∀ n, w0.drawn + n < w0'.drawn → w.tape (w.drawn + n) = w0.tape (w0.drawn + n)) →
    ∃ w' es, stepG P true (mkG (frs k cs stk)) w = .go (mkG (frs k cs stk')) w' es ∧ Sim F w0' w' ∧ w'.tape = w.tape ∧ w'.drawn + w0.drawn = w.drawn + w0'.drawn ∧ w.heap.size ≤ w'.heap.size ∧ ((NoPend w → NoPend w') ∧ Stay w w') ∧ ∀ e ∈ es, EvOk F w'.heap.size e

theorem Sim.refl {w : World} (h : NoPend w) : Sim (fun _ => False) w w := by
  refine ⟨rfl, fun b _ => ?_, fun b hb => hb.elim, rfl, rfl⟩
  cases hb : w.heap[b]? with
  | none => rfl
  | some o =>
    cases o <;> simp [inert]
    exact h b _ _ hb

/-- The bodies of the functions that may be called are plain. -/
def Bodies : Prop := ∀ f ∈ K.fns, ∃ fn c, P.funcs[f]? = some fn ∧ fn.body = some c ∧ okCode K true [] c = true

def enterTF (P : Program) (f : FuncId) (args : Array Value) : TF :=
  ⟨f, args ++ Array.replicate (((P.funcs[f]?).map (·.ntmps)).getD 0 - args.size) undef, [.code (((P.funcs[f]?).bind (·.body)).getD (.refuse "unsupported: a function without a Go body is entered"))], false⟩
theorem enter_eq (f : FuncId) (args : Array Value) : Frame.enter P f args .normal = (enterTF P f args).fr [] := by simp [Frame.enter, TF.fr, enterTF]

theorem calm_results (fn : Func) (T : Array Value) : Calm P (results fn T) := by
  unfold results
  refine Calm.bind (calm_mapM_array (fun r => ?_) _) fun _ => ?_
  · split
    · exact calm_pure _
    · exact Calm.bind (calm_asAddr _) fun _ => calm_loadVar _ _
  · exact calm_pure _

theorem waits_finish {c : TF} (h : c.Waits) (v : Value) : ∃ c' : TF, (∀ k, (c.fr k).finish v = c'.fr k) ∧ ∀ ret, c.Ok K ret → c'.Ok K ret := by
  obtain ⟨hr, ops, i, rest, t, ht⟩ := h
  obtain ⟨fn, tmps, todo, rt⟩ := c
  obtain rfl : rt = false := hr
  obtain rfl : todo = .inRegion ops (i :: rest) :: t := ht
  refine ⟨⟨fn, match (ops[i]?).bind (·.dst) with | some d => tmps.setIfInBounds d v | none => tmps, .inRegion ops rest :: t, false⟩, fun k => ?_, fun ret hc => ⟨?_, hc.fn, fun e => by cases e⟩⟩
  · simp only [TF.fr, List.cons_append, Frame.finish]
    rfl
  · obtain ⟨h1, h2⟩ := (okItems_cons K).1 hc.items
    exact (okItems_cons K).2 ⟨h1, h2⟩

theorem frs_all {ret : Bool} {k : List Item} : ∀ {r : List TF} {f : TF}, StkOk K ret (f :: r) → ∀ c ∈ frs k [] r, c.mode = .run ∧ c.defers = [] ∧ ∃ fn, P.funcs[c.fn]? = some fn
  | [], _, _, c, hc => by simp [frs] at hc
  | g :: r, f, h, c, hc => by
    have hw : g.Waits := h.2.1
    have hr : StkOk K ret (g :: r) := h.2.2
    rw [frs_cons] at hc
    rcases List.mem_cons.1 hc with rfl | hc
    · exact ⟨by simp [TF.fr, hw.1], rfl, hr.top.fn⟩
    · exact frs_all hr c hc
theorem frs_append {k : List Item} {cs : List Frame} : ∀ r : List TF, frs k cs r = frs k [] r ++ cs
  | [] => rfl
  | g :: r => by rw [frs_cons, frs_cons, frs_append r]; rfl

theorem lock_run {α : Type} {s : Sem α} {F : Nat → Prop} {w0 w w1 : World} {a : α} (hc : Calm P s) (hS : Sim F w0 w) (hr : s.run P w0 = .ok a w1)
    (ht : ∀ n, w0.drawn + n < w1.drawn → w.tape (w.drawn + n) = w0.tape (w0.drawn + n)) :
    ∃ w' es, s.runT P w #[] = (.ok a w', es) ∧ Sim F w1 w' ∧ w'.tape = w.tape ∧ w'.drawn + w0.drawn = w.drawn + w1.drawn ∧ w.heap.size ≤ w'.heap.size ∧ ((NoPend w → NoPend w') ∧ Stay w w') ∧ ∀ e ∈ es, EvOk F w'.heap.size e := by
  obtain ⟨w', es, h1, h2, h3, h4, h5, h6⟩ := (Calm.lock s (es := #[]) hc hS hr ht).ex
  have e : s.run P w = .ok a w' := by have := congrArg Prod.fst h1; rwa [Sem.runT_eq] at this
  exact ⟨w', es, by simpa using h1, h2, h3, h4, h5, ⟨fun hn => (Calm.halts s hc hn).1 _ _ e, Calm.stay s hc e⟩, h6⟩

theorem runT_halt {α : Type} {s : Sem α} {w w1 : World} {x : Halt} (h : s.run P w = .halt x w1) : (s.runT P w #[]).1 = .halt x w1 := by rw [Sem.runT_eq]; exact h

/-- A stack that is not at its stop takes a step, or never comes to a stop. -/
theorem stack_step {ret : Bool} (hB : Bodies K) {f : TF} {r : List TF} {w0 : World} (h : StkOk K ret (f :: r)) (hn : NoPend w0) (hfl : ¬ (r = [] ∧ Floor ret f)) :
    (∃ stk' w0', stk' ≠ [] ∧ StkOk K ret stk' ∧ Goes1 P ret (f :: r) stk' w0 w0') ∨ NoStop P ret (lone (f.fr (kOf [sent] r)) (frs [sent] [catchF P] r) w0) := by
  have htop := h.top
  have ek : kOf ([] : List Item) r = [] := by cases r <;> rfl
  -- the machine as it stands is at no stop
  have h0 : ¬ StopM P ret (lone (f.fr (kOf [sent] r)) (frs [sent] [catchF P] r) w0) := by
    rintro ⟨f', w', e, hf'⟩
    obtain ⟨e1, e2, _⟩ := lone_inj e
    have hr : r = [] := by
      cases r with
      | nil => rfl
      | cons g r =>
        rw [frs_cons] at e2
        injection e2 with _ e3
        cases r with
        | nil => cases e3
        | cons g' r' => rw [frs_cons] at e3; cases e3
    subst hr
    subst e1
    exact hfl ⟨rfl, stp_fr.1 hf'⟩
  by_cases hr : f.ret = true
  · -- it is on its way out
    obtain ⟨fn, hfn⟩ := htop.fn
    cases r with
    | nil =>
      right
      cases hst : step P (lone (f.fr (kOf [sent] [])) (frs [sent] [catchF P] []) w0) with
      | next m1 => exact NoStop.next h0 hst (ret_back hr ⟨fn, hfn⟩ _ hst)
      | ended o w1 => exact NoStop.ended h0 hst
    | cons c r =>
      have hw : c.Waits := h.2.1
      have hrest : StkOk K ret (c :: r) := h.2.2
      have hstep : ∀ (k : List Item) (cs : List Frame) (w : World), stepG P true (gg (f.fr k) cs) w = GStep.after (seen P f.fn ((results fn f.tmps).runT P w #[]).2) (match ((results fn f.tmps).runT P w #[]).1 with
          | .ok v w => doReturn P true (f.fr k) cs none v w
          | .halt (.stuck s) w => .ended (.stuck s ((f.fr k).pos P)) w
          | .halt _ w => .ended (.stuck "return: the result variables cannot be read" ((f.fr k).pos P)) w) := by
        intro k cs w
        simp [gg, stepG, unwind, TF.fr, hr, hfn]
        rfl
      cases hres : (results fn f.tmps).run P w0 with
      | ok v w1 =>
        left
        obtain ⟨d1, d2⟩ := Calm.drawn _ (calm_results fn f.tmps) hres
        obtain ⟨c', hc1, hc2⟩ := waits_finish K hw v
        refine ⟨c' :: r, w1, by simp, hrest.swap K (hc2 _ hrest.top), d1, d2, (Calm.halts _ (calm_results fn f.tmps) hn).1 _ _ hres, fun k cs F w hS ht => ?_⟩
        obtain ⟨w', es, e1, e2, e3, e4, e5, e5', e6⟩ := lock_run (calm_results fn f.tmps) hS hres ht
        refine ⟨w', seen P f.fn es, ?_, e2, e3, e4, e5, e5', fun e he => e6 e (seen_sub he)⟩
        rw [frs_cons, frs_cons, mkG, hstep, e1]
        show GStep.after (seen P f.fn es) (doReturn P true (f.fr _) (c.fr _ :: frs k cs r) none v w') = _
        have : doReturn P true (f.fr (kOf k (c :: r))) (c.fr (kOf k r) :: frs k cs r) none v w' = .go (gg ((c.fr (kOf k r)).finish v) (frs k cs r)) w' := by simp [doReturn, TF.fr, gg]
        rw [this, hc1, frs_cons, mkG]
        simp [GStep.after]
      | halt x w1 =>
        right
        have e : ∀ (q : Outcome), GStep.after (seen P f.fn ((results fn f.tmps).runT P w0 #[]).2) (.ended q w1) = .ended q w1 (seen P f.fn ((results fn f.tmps).runT P w0 #[]).2) := fun q => by simp [GStep.after]
        obtain ⟨q, hq⟩ : ∃ q, stepG P true (gg (f.fr (kOf [sent] (c :: r))) (frs [sent] [catchF P] (c :: r))) w0 = .ended q w1 (seen P f.fn ((results fn f.tmps).runT P w0 #[]).2) := by
          rw [hstep, runT_halt hres]
          cases x <;> exact ⟨_, e _⟩
        exact NoStop.ended h0 (step_gg_ended hq)
  · -- it runs
    have hr' : f.ret = false := by simpa using hr
    cases topStep K htop hr' with
    | ctl f' ok st =>
      left
      refine ⟨f' :: r, w0, by simp, h.swap K ok, Nat.le_refl _, rfl, hn, fun k cs F w hS ht => ⟨w, #[], ?_, hS, rfl, by omega, Nat.le_refl _, ⟨id, .refl _⟩, by simp⟩⟩
      rw [frs_cons, frs_cons]
      exact st _ _ _ _
    | draw f' q hq ok st =>
      left
      refine ⟨f' (q.cut (w0.tape w0.drawn q)) :: r, { w0 with drawn := w0.drawn + 1 }, by simp, h.swap K (ok _), Nat.le_succ _, rfl, hn, fun k cs F w hS ht => ⟨{ w with drawn := w.drawn + 1 }, #[], ?_, hS.drawn _ _, rfl, by simp; omega, Nat.le_refl _, ⟨id, .of (Nat.le_refl _) fun _ _ => rfl⟩, by simp⟩⟩
      have e := ht 0 (by simp)
      simp only [Nat.add_zero] at e
      rw [frs_cons, frs_cons, mkG, st, e]
      rfl
    | dead st =>
      right
      obtain ⟨o, es, e⟩ := st (kOf [sent] r) (frs [sent] [catchF P] r) w0 true
      exact NoStop.ended h0 (step_gg_ended e)
    | done nil =>
      cases r with
      | nil => exact absurd ⟨rfl, .inr nil⟩ hfl
      | cons c r =>
        left
        refine ⟨{ f with ret := true } :: c :: r, w0, by simp, h.swap K ⟨htop.items, htop.fn, fun _ => rfl⟩, Nat.le_refl _, rfl, hn, fun k cs F w hS ht => ⟨w, #[], ?_, hS, rfl, by omega, Nat.le_refl _, ⟨id, .refl _⟩, by simp⟩⟩
        have e1 : ∀ g : TF, frs k cs (g :: c :: r) = g.fr [] :: frs k cs (c :: r) := fun g => rfl
        rw [e1, e1]
        generalize frs k cs (c :: r) = cs'
        simp [mkG, gg, stepG, stepG.exec, TF.fr, nil, hr']
    | op s calm yields put ok waits fin st =>
      cases hrun : s.run P w0 with
      | ok n w1 =>
        left
        obtain ⟨d1, d2⟩ := Calm.drawn _ calm hrun
        have hp := (Calm.halts _ calm hn).1 _ _ hrun
        have hy := yields _ _ _ hrun
        have value : ∀ v, (n = .value v ∨ (n = .skip ∧ v = undef)) → ∃ stk' w0', stk' ≠ [] ∧ StkOk K ret stk' ∧ Goes1 P ret (f :: r) stk' w0 w0' := by
          intro v hv
          refine ⟨put v :: r, w1, by simp, h.swap K (ok v), d1, d2, hp, fun k cs F w hS ht => ?_⟩
          obtain ⟨w', es, e1, e2, e3, e4, e5, e5', e6⟩ := lock_run calm hS hrun ht
          refine ⟨w', seen P f.fn es, ?_, e2, e3, e4, e5, e5', fun e he => e6 e (seen_sub he)⟩
          rw [frs_cons, frs_cons, mkG, st]
          have hkind : ∀ k, ((f.fr k).kind == CallKind.early) = false := fun k => rfl
          rcases hv with rfl | ⟨rfl, rfl⟩ <;>
          · simp only [stepG.apply, if_true, e1, hkind, Bool.false_eq_true, if_false, fin]
            simp [GStep.after, mkG, gg, TF.fr]
        cases n with
        | value v => exact value v (.inl rfl)
        | skip => exact value undef (.inr ⟨rfl, rfl⟩)
        | enter g args =>
          obtain ⟨fn, c, hf1, hf2, hf3⟩ := hB g hy
          refine ⟨enterTF P g args :: f :: r, w1, by simp, ⟨⟨?_, ⟨fn, hf1⟩, fun _ => rfl⟩, waits, h⟩, d1, d2, hp, fun k cs F w hS ht => ?_⟩
          · simp [enterTF, hf1, hf2, okItems, okItem, idsOf, hf3]
          obtain ⟨w', es, e1, e2, e3, e4, e5, e5', e6⟩ := lock_run calm hS hrun ht
          refine ⟨w', seen P f.fn es, ?_, e2, e3, e4, e5, e5', fun e he => e6 e (seen_sub he)⟩
          rw [frs_cons, frs_cons, mkG, st]
          have hkind : ∀ k, ((f.fr k).kind == CallKind.early) = false := fun k => rfl
          obtain ⟨_, ops, i, rest, t, htodo⟩ := waits
          have e8 : (f.fr (kOf k r)).todo = .inRegion ops (i :: rest) :: (t ++ kOf k r) := by simp [TF.fr, htodo]
          simp only [stepG.apply, if_true, e1, hkind, Bool.false_eq_true, if_false, e8]
          rw [enter_eq, frs_cons]
          simp [GStep.after, mkG, gg, TF.fr, kOf]
        | _ => exact hy.elim
      | halt x w1 =>
        right
        have hx := (Calm.halts _ calm hn).2 _ _ hrun
        have hkind : ∀ k, ((f.fr k).kind == CallKind.early) = false := fun k => rfl
        have hT := runT_halt hrun
        obtain ⟨es, hTe⟩ : ∃ es, s.runT P w0 #[] = (.halt x w1, es) := ⟨(s.runT P w0 #[]).2, by rw [← hT]⟩
        have hst := st (kOf [sent] r) (frs [sent] [catchF P] r) w0 true
        cases x with
        | panic v =>
          have e : stepG P true (gg (f.fr (kOf [sent] r)) (frs [sent] [catchF P] r)) w0 = .go (gg ({ f.fr (kOf [sent] r) with mode := .panicking [{ v, recovered := false }] }) (frs [sent] [catchF P] r)) w1 (seen P f.fn es) := by
            rw [hst]
            simp only [stepG.apply, if_true, hTe, hkind, Bool.false_eq_true, if_false]
            simp [GStep.after, gg, TF.fr, hr', Frame.raise]
          refine NoStop.next h0 (step_gg e) ?_
          rw [frs_append]
          exact noStop_fallen _ _ _ rfl rfl htop.fn (frs_all K h)
        | stuck t =>
          have e : stepG P true (gg (f.fr (kOf [sent] r)) (frs [sent] [catchF P] r)) w0 = .ended (.stuck t ((f.fr (kOf [sent] r)).pos P)) w1 (seen P f.fn es) := by
            rw [hst]
            simp only [stepG.apply, if_true, hTe, hkind, Bool.false_eq_true, if_false]
            simp [GStep.after, TF.fr]
          exact NoStop.ended h0 (step_gg_ended e)
        | unsupported u =>
          have e : stepG P true (gg (f.fr (kOf [sent] r)) (frs [sent] [catchF P] r)) w0 = .ended (.unsupported u ((f.fr (kOf [sent] r)).pos P)) w1 (seen P f.fn es) := by
            rw [hst]
            cases u <;> first | (simp [haltOk] at hx; done) | (simp only [stepG.apply, if_true, hTe, hkind, Bool.false_eq_true, if_false]; simp [GStep.after, TF.fr])
          exact NoStop.ended h0 (step_gg_ended e)
        | _ => simp [haltOk] at hx
end
end Go.Proofs.Ytajheicheefpeaa

/- What arrives alone on every tape arrives whatever is drawn between: a game against the tape. -/
namespace Go.Proofs.Ytajheicheefpeaa
open Go.Conc
set_option linter.unusedSimpArgs false
set_option linter.unusedVariables false

abbrev TapeT := Nat → Question → Nat
def onT (w : World) (τ : TapeT) (d : Nat) : World := { w with tape := τ, drawn := d }

/-- The machine of one goroutine with the catching frame beneath. -/
def virt (P : Program) : List TF → World → Machine
  | [], w => lone (catchF P) [] w
  | f :: r, w => lone (f.fr (kOf [sent] r)) (frs [sent] [catchF P] r) w

/-- What is asked of the stop: whether it is on its way out; its slots; the world. -/
def QF (Q : FuncId → Bool → Array Value → World → Prop) (fr : Frame) (w : World) : Prop := (fr.mode = .returning ∧ Q fr.fn true fr.tmps w) ∨ (fr.mode = .run ∧ fr.todo = [sent] ∧ Q fr.fn false fr.tmps w)

section
variable {P : Program} (K : Kit P) (ret : Bool) (Q : FuncId → Bool → Array Value → World → Prop)

theorem QF.stp {Q : FuncId → Bool → Array Value → World → Prop} {fr : Frame} {w : World} (h : QF Q fr w) : Stp fr := h.imp (·.1) fun x => ⟨x.1, x.2.1⟩
theorem QF.tf {Q : FuncId → Bool → Array Value → World → Prop} {f : TF} {w : World} (h : QF Q (f.fr [sent]) w) : Floor false f ∧ Q f.fn f.ret f.tmps w := by
  refine ⟨stp_fr.1 h.stp, ?_⟩
  rcases h with ⟨h1, h2⟩ | ⟨h1, _, h2⟩
  · have : f.ret = true := by cases hr : f.ret <;> simp_all [TF.fr]
    rw [this]; exact h2
  · have : f.ret = false := by cases hr : f.ret <;> simp_all [TF.fr]
    rw [this]; exact h2

/-- From here it comes to its stop, whatever is drawn. -/
inductive Win : List TF → World → Prop
  | stop {f : TF} {w : World} : Floor ret f → Q f.fn f.ret f.tmps w → Win [f] w
  | step {stk : List TF} {w : World} (S : TapeT → Nat → List TF) (V : TapeT → Nat → World) : StkOk K ret stk → (∀ τ d, S τ d ≠ [] ∧ Goes1 P ret stk (S τ d) (onT w τ d) (V τ d)) → (∀ τ d, Win (S τ d) (V τ d)) → Win stk w

/-- Alone, on every tape, it comes to its stop. -/
def Lone (stk : List TF) (w : World) : Prop := ∀ τ d, ∃ n fr w', runN P n (virt P stk (onT w τ d)) = .next (lone fr [catchF P] w') ∧ QF Q fr w'

theorem mkG_virt {f : TF} {r : List TF} : mkG (frs [sent] [catchF P] (f :: r)) = gg (f.fr (kOf [sent] r)) (frs [sent] [catchF P] r) := by
  rw [frs_cons]
  cases r <;> rfl

theorem virt_step {stk stk' : List TF} {w w' : World} {es : Array Event} (h : stk ≠ []) (h' : stk' ≠ []) (hs : stepG P true (mkG (frs [sent] [catchF P] stk)) w = .go (mkG (frs [sent] [catchF P] stk')) w' es) : step P (virt P stk w) = .next (virt P stk' w') := by
  cases stk with
  | nil => exact absurd rfl h
  | cons f r =>
    cases stk' with
    | nil => exact absurd rfl h'
    | cons f' r' =>
      rw [mkG_virt, mkG_virt] at hs
      exact step_gg hs

theorem virt_stop {fr : Frame} {stk : List TF} {w w' : World} (h : virt P stk w = lone fr [catchF P] w') : ∃ f, stk = [f] ∧ fr = f.fr [sent] ∧ w = w' := by
  cases stk with
  | nil => obtain ⟨_, h, _⟩ := lone_inj h; cases h
  | cons g r =>
    obtain ⟨h1, h2, h3⟩ := lone_inj h
    have hr : r = [] := by
      cases r with
      | nil => rfl
      | cons g' r =>
        rw [frs_cons] at h2
        injection h2 with _ h2
        cases r with
        | nil => cases h2
        | cons g'' r' => rw [frs_cons] at h2; cases h2
    subst hr
    exact ⟨g, rfl, h1.symm, h3⟩

/-- Behind its stop it comes to no stop again. -/
theorem floor_last {f : TF} {w : World} (hf : Floor ret f) (hok : f.Ok K ret) : ∀ n m', runN P (n + 1) (virt P [f] w) = .next m' → ¬ StopM P ret m' := by
  intro n m' hr
  by_cases hret : f.ret = true
  · simp only [runN] at hr
    cases h1 : step P (virt P [f] w) with
    | next m1 => rw [h1] at hr; exact ret_back hret hok.fn m1 h1 n m' hr
    | ended o w1 => rw [h1] at hr; cases hr
  · have hret : f.ret = false := by simpa using hret
    have hnil : f.todo = [] := hf.resolve_left (by rw [hret]; simp)
    obtain ⟨o, es, e⟩ : ∃ o es, stepG P true (gg (f.fr [sent]) [catchF P]) w = .ended o w es := by
      simp only [gg, stepG, stepG.exec, TF.fr, hnil, hret, sent, List.nil_append]
      exact ⟨_, _, rfl⟩
    have hs : step P (virt P [f] w) = .ended o w := step_gg_ended e
    simp only [runN, hs] at hr
    cases hr

theorem Goes1.virt {stk stk' : List TF} {w0 w0' : World} (h : Goes1 P ret stk stk' w0 w0') (h1 : stk ≠ []) (h2 : stk' ≠ []) {w : World} (hS : Sim (fun _ => False) w0 w) (hn : NoPend w)
    (ht : ∀ n, w0.drawn + n < w0'.drawn → w.tape (w.drawn + n) = w0.tape (w0.drawn + n)) :
    step P (virt P stk w) = .next (virt P stk' (onT w0' w.tape (w.drawn + (w0'.drawn - w0.drawn)))) := by
  obtain ⟨hd, _, hn0, hs⟩ := h
  obtain ⟨w', es, e1, e2, e3, e4, e5, e6, _⟩ := hs [sent] [catchF P] (fun _ => False) w hS ht
  have hw : w' = onT w0' w.tape (w.drawn + (w0'.drawn - w0.drawn)) := by
    have hn' := e6.1 hn
    have hh : w'.heap = w0'.heap := by
      refine Array.ext_getElem? fun b => ?_
      have := e2.same b (fun x => x)
      rw [this]
      cases hb : w'.heap[b]? with
      | none => rfl
      | some o =>
        cases o <;> simp [inert]
        exact absurd hb (hn' _ _ _)
    have ho := e2.os
    have hp := e2.output
    cases w'
    cases w0'
    simp only [onT] at *
    subst hh ho hp e3
    congr 1
    omega
  rw [hw] at e1
  exact virt_step h1 h2 e1

/-- The worlds that are the same but for the tape. -/
theorem onT_sim {w : World} (hn : NoPend w) (τ τ' : TapeT) (d d' : Nat) : Sim (fun _ => False) (onT w τ d) (onT w τ' d') := by
  have := Sim.refl hn
  exact ⟨this.size, this.same, this.blank, this.os, this.output⟩

theorem onT_onT (w : World) (τ τ' : TapeT) (d d' : Nat) : onT (onT w τ d) τ' d' = onT w τ' d' := rfl
theorem onT_pend {w : World} (hn : NoPend w) (τ : TapeT) (d : Nat) : NoPend (onT w τ d) := hn

/-- The same answers still to come: the same run. -/
theorem virt_shift (hB : Bodies K) : ∀ (n : Nat) (stk : List TF) (w : World) (τ τ' : TapeT) (d d' : Nat), stk ≠ [] → StkOk K ret stk → NoPend w → (∀ k, τ (d + k) = τ' (d' + k)) →
    ∀ fr w', runN P n (virt P stk (onT w τ d)) = .next (lone fr [catchF P] w') → Stp fr → ∃ d1, runN P n (virt P stk (onT w τ' d')) = .next (lone fr [catchF P] (onT w' τ' d1)) := by
  intro n
  induction n with
  | zero =>
    intro stk w τ τ' d d' hne hok hn ht fr w' hr hf
    simp only [runN] at hr ⊢
    injection hr with hr
    obtain ⟨f, rfl, rfl, rfl⟩ := virt_stop hr
    exact ⟨d', rfl⟩
  | succ n ih =>
    intro stk w τ τ' d d' hne hok hn ht fr w' hr hf
    cases stk with
    | nil => exact absurd rfl hne
    | cons g r =>
      have hfl : ¬ (r = [] ∧ Floor ret g) := by
        rintro ⟨rfl, hg⟩
        exact floor_last K ret hg hok n _ hr ⟨fr, w', rfl, hf⟩
      rcases stack_step K hB hok (onT_pend hn τ d) hfl with ⟨stk', w1, hne', hok', hg⟩ | hno
      · have e1 := hg.virt ret hne hne' (onT_sim hn τ τ d d) (onT_pend hn _ _) (fun _ _ => rfl)
        have e2 := hg.virt ret hne hne' (onT_sim hn τ τ' d d') (onT_pend hn _ _) (fun k _ => (ht k).symm)
        simp only [runN, e1] at hr
        simp only [runN, e2]
        refine ih stk' w1 τ τ' _ _ hne' hok' hg.2.2.1 (fun k => ?_) fr w' hr hf
        have := ht ((w1.drawn - d) + k)
        simpa [onT, Nat.add_assoc] using this
      · exact absurd ⟨fr, w', rfl, hf⟩ (hno _ _ hr)

/-- The states from which it comes to its stop on every tape, and yet the game is not won. -/
structure Lost (stk : List TF) (w : World) : Prop where
  ne : stk ≠ []
  ok : StkOk K ret stk
  pend : NoPend w
  lone : Lone (P := P) Q stk w
  lost : ¬ Win K ret Q stk w

theorem Lost.step (hB : Bodies K) (hQ : ∀ n b T w τ d, Q n b T w → Q n b T (onT w τ d)) {stk : List TF} {w : World} (h : Lost K ret Q stk w) :
    ∃ (τ : TapeT) (d : Nat) (stk' : List TF) (w' : World), Goes1 P ret stk stk' (onT w τ d) w' ∧ Lost K ret Q stk' w' := by
  obtain ⟨hne, hok, hn, hl, hw⟩ := h
  cases stk with
  | nil => exact absurd rfl hne
  | cons g r =>
    have hfl : ¬ (r = [] ∧ Floor ret g) := by
      rintro ⟨rfl, hg⟩
      obtain ⟨n, fr, w', hr, hq⟩ := hl w.tape w.drawn
      cases n with
      | zero =>
        simp only [runN] at hr
        injection hr with hr
        obtain ⟨f, h1, rfl, rfl⟩ := virt_stop hr
        injection h1 with h1 _
        subst h1
        exact hw (.stop hg (hQ _ _ _ _ w.tape w.drawn hq.tf.2))
      | succ n => exact floor_last K ret hg hok n _ hr ⟨fr, w', rfl, hq.stp⟩
    have all : ∀ τ d, ∃ stk' w', (stk' ≠ [] ∧ StkOk K ret stk') ∧ Goes1 P ret (g :: r) stk' (onT w τ d) w' := by
      intro τ d
      rcases stack_step K hB hok (onT_pend hn τ d) hfl with ⟨stk', w1, h1, h2, h3⟩ | hno
      · exact ⟨stk', w1, ⟨h1, h2⟩, h3⟩
      · obtain ⟨n, fr, w', hr, hq⟩ := hl τ d
        exact absurd ⟨fr, w', rfl, hq.stp⟩ (hno _ _ hr)
    by_cases hall : ∀ τ d, ∃ stk' w', stk' ≠ [] ∧ Goes1 P ret (g :: r) stk' (onT w τ d) w' ∧ Win K ret Q stk' w'
    · exfalso
      refine hw (.step (fun τ d => (hall τ d).choose) (fun τ d => (hall τ d).choose_spec.choose) hok (fun τ d => ?_) fun τ d => ?_)
      · exact ⟨(hall τ d).choose_spec.choose_spec.1, (hall τ d).choose_spec.choose_spec.2.1⟩
      · exact (hall τ d).choose_spec.choose_spec.2.2
    · simp only [Classical.not_forall] at hall
      obtain ⟨τ, d, hno⟩ := hall
      obtain ⟨stk', w', ⟨h1, h2⟩, h3⟩ := all τ d
      refine ⟨τ, d, stk', w', h3, h1, h2, h3.2.2.1, fun τ' d' => ?_, fun hwin => hno ⟨stk', w', h1, h3, hwin⟩⟩
      -- the tape that answers the step as it was answered, and then so
      let c := w'.drawn - d
      let T : TapeT := fun n => if n < c then τ (d + n) else τ' (d' + (n - c))
      obtain ⟨n, fr, w1, hr, hq⟩ := hl T 0
      have e2 := h3.virt ret hne h1 (onT_sim hn τ T d 0) (onT_pend hn _ _) (fun k hk => by
        show T (0 + k) = τ (d + k)
        have hk' : d + k < w'.drawn := hk
        have : k < c := by show k < w'.drawn - d; omega
        simp [T, this])
      cases n with
      | zero =>
        simp only [runN] at hr
        injection hr with hr
        obtain ⟨f, h4, rfl, _⟩ := virt_stop hr
        injection h4 with h4 h5
        subst h4 h5
        exact absurd ⟨rfl, stp_fr.1 hq.stp⟩ hfl
      | succ n =>
        simp only [runN, e2] at hr
        have e3 : (onT w T 0).tape = T := rfl
        rw [e3] at hr
        have e4 : (onT w T 0).drawn + (w'.drawn - (onT w τ d).drawn) = c := by show 0 + (w'.drawn - d) = c; omega
        rw [e4] at hr
        have ht : ∀ k, T (c + k) = τ' (d' + k) := fun k => by
          show (if c + k < c then τ (d + (c + k)) else τ' (d' + (c + k - c))) = _
          rw [if_neg (by omega), Nat.add_sub_cancel_left]
        obtain ⟨d1, h6⟩ := virt_shift K ret hB n stk' w' T τ' c d' h1 h2 h3.2.2.1 ht fr w1 hr hq.stp
        exact ⟨n, fr, _, h6, hq.imp (fun x => ⟨x.1, hQ _ _ _ _ _ _ x.2⟩) fun x => ⟨x.1, x.2.1, hQ _ _ _ _ _ _ x.2.2⟩⟩

/-- WHAT ARRIVES ON EVERY TAPE IS WON. -/
theorem win_of_lone (hB : Bodies K) (hQ : ∀ n b T w τ d, Q n b T w → Q n b T (onT w τ d)) {stk : List TF} {w : World} (hne : stk ≠ []) (hok : StkOk K ret stk) (hn : NoPend w) (hl : Lone (P := P) Q stk w) : Win K ret Q stk w := by
  apply Classical.byContradiction
  intro hw
  -- a way on that is never won
  let X := { x : List TF × World // Lost K ret Q x.1 x.2 }
  have next : ∀ x : X, ∃ y : (TapeT × Nat) × X, Goes1 P ret x.1.1 y.2.1.1 (onT x.1.2 y.1.1 y.1.2) y.2.1.2 := fun x => by
    obtain ⟨τ, d, stk', w', h1, h2⟩ := x.2.step K ret Q hB hQ
    exact ⟨((τ, d), ⟨(stk', w'), h2⟩), h1⟩
  let x0 : X := ⟨(stk, w), hne, hok, hn, hl, hw⟩
  let xs : Nat → X := fun n => Nat.rec x0 (fun _ x => (next x).choose.2) n
  let tp : Nat → TapeT := fun n => (next (xs n)).choose.1.1
  let dd : Nat → Nat := fun n => (next (xs n)).choose.1.2
  have go : ∀ n, Goes1 P ret (xs n).1.1 (xs (n + 1)).1.1 (onT (xs n).1.2 (tp n) (dd n)) (xs (n + 1)).1.2 := fun n => (next (xs n)).choose_spec
  let c : Nat → Nat := fun n => (xs (n + 1)).1.2.drawn - dd n
  let start : Nat → Nat := fun n => Nat.rec 0 (fun i s => s + c i) n
  have start_succ : ∀ n, start (n + 1) = start n + c n := fun n => rfl
  have mono : ∀ i j, i ≤ j → start i ≤ start j := by
    intro i j h
    induction h with
    | refl => exact Nat.le_refl _
    | step h ih => exact Nat.le_trans ih (by rw [start_succ]; omega)
  have uniq : ∀ i j k, start i ≤ k → k < start (i + 1) → start j ≤ k → k < start (j + 1) → i = j := by
    intro i j k h1 h2 h3 h4
    rcases Nat.lt_trichotomy i j with h | h | h
    · have := mono (i + 1) j h; omega
    · exact h
    · have := mono (j + 1) i h; omega
  let T : TapeT := fun k => @dite _ (∃ i, start i ≤ k ∧ k < start (i + 1)) (Classical.propDecidable _) (fun h => tp h.choose (dd h.choose + (k - start h.choose))) (fun _ => fun _ => 0)
  have hT : ∀ i n, n < c i → T (start i + n) = tp i (dd i + n) := by
    intro i n hn
    have h : ∃ j, start j ≤ start i + n ∧ start i + n < start (j + 1) := ⟨i, by omega, by rw [start_succ]; omega⟩
    have hi : h.choose = i := uniq _ _ (start i + n) h.choose_spec.1 h.choose_spec.2 (by omega) (by rw [start_succ]; omega)
    show @dite _ (∃ j, start j ≤ start i + n ∧ start i + n < start (j + 1)) (Classical.propDecidable _) (fun h => tp h.choose (dd h.choose + (start i + n - start h.choose))) (fun _ => fun _ => 0) = _
    rw [dif_pos h, hi]
    congr 1
    omega
  have run : ∀ i, runN P i (virt P stk (onT w T 0)) = .next (virt P (xs i).1.1 (onT (xs i).1.2 T (start i))) := by
    intro i
    induction i with
    | zero => rfl
    | succ i ih =>
      have e := (go i).virt ret (xs i).2.ne (xs (i + 1)).2.ne (onT_sim (xs i).2.pend (tp i) T (dd i) (start i)) (onT_pend (xs i).2.pend _ _) (fun n hn => hT i n (by
        have hn' : dd i + n < (xs (i + 1)).1.2.drawn := hn
        show n < (xs (i + 1)).1.2.drawn - dd i
        omega))
      rw [runN_add, ih]
      simp only [runN, e]
      rfl
  obtain ⟨n, fr, w', hr, hq⟩ := hl T 0
  rw [run n] at hr
  injection hr with hr
  obtain ⟨f, h1, rfl, _⟩ := virt_stop hr
  have hf : Floor ret f := hq.tf.1
  obtain ⟨m, fr2, w2, hr2, hq2⟩ := (xs n).2.lone (onT (xs n).1.2 T (start n)).tape (start n)
  have hlost := (xs n).2
  rw [h1] at hr2
  cases m with
  | zero =>
    simp only [runN] at hr2
    injection hr2 with hr2
    obtain ⟨f2, h3, rfl, rfl⟩ := virt_stop hr2
    injection h3 with h3 _
    subst h3
    have := hlost.lost
    rw [h1] at this
    exact this (.stop hf (hQ _ _ _ (onT (xs n).1.2 (onT (xs n).1.2 T (start n)).tape (start n)) (xs n).1.2.tape (xs n).1.2.drawn hq2.tf.2))
  | succ m =>
    have hok' := hlost.ok
    rw [h1] at hok'
    exact floor_last K ret hf hok' m _ hr2 ⟨fr2, w2, rfl, hq2.stp⟩
end
end Go.Proofs.Ytajheicheefpeaa

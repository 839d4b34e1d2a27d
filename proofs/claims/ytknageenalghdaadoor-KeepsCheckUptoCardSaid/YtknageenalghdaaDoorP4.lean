/- Things of a machine, changes, items, what is held: plain Lean, no program. -/
import Derived.Test.YtknageenalghdaaDoorP3
namespace Go.Proofs
open Go Go.Abs
set_option linter.unusedSimpArgs false
set_option linter.unusedVariables false
structure FileV where
  path : Bytes
  data : Bytes
  runs : Bool
  deriving DecidableEq
structure SetV where
  key : Bytes
  value : Bytes
  deriving DecidableEq
structure SvcV where
  name : Bytes
  path : Bytes
  auto : Bool
  on : Bool
  deriving DecidableEq
/-- A change; an item. -/
structure ChgV where
  kind : Int
  file : FileV
  set : SetV
  svc : SvcV
  deriving DecidableEq
def FileV.zero : FileV := ⟨[], [], false⟩
def SetV.zero : SetV := ⟨[], []⟩
def SvcV.zero : SvcV := ⟨[], [], false, false⟩
def encFile (f : FileV) : List AV := [.str f.path, .str f.data, .bool f.runs]
def encSet (s : SetV) : List AV := [.str s.key, .str s.value]
def encSvc (s : SvcV) : List AV := [.str s.name, .str s.path, .bool s.auto, .bool s.on]
def encChg (c : ChgV) : List AV := [.int .i64 c.kind, .str c.file.path, .str c.file.data, .bool c.file.runs, .str c.set.key, .str c.set.value, .str c.svc.name, .str c.svc.path, .bool c.svc.auto, .bool c.svc.on]
def decFile : List AV → Option FileV
  | [.str a, .str b, .bool c] => some ⟨a, b, c⟩
  | _ => none
def decSet : List AV → Option SetV
  | [.str a, .str b] => some ⟨a, b⟩
  | _ => none
def decSvc : List AV → Option SvcV
  | [.str a, .str b, .bool c, .bool d] => some ⟨a, b, c, d⟩
  | _ => none
def decChg : List AV → Option ChgV
  | [.int .i64 k, .str a, .str b, .bool c, .str d, .str e, .str f, .str g, .bool h, .bool i] => some ⟨k, ⟨a, b, c⟩, ⟨d, e⟩, ⟨f, g, h, i⟩⟩
  | _ => none
theorem decFile_some {c : List AV} {a : FileV} (h : decFile c = some a) : c = encFile a := by
  unfold decFile at h; split at h
  · cases h; rfl
  · cases h
theorem decSet_some {c : List AV} {a : SetV} (h : decSet c = some a) : c = encSet a := by
  unfold decSet at h; split at h
  · cases h; rfl
  · cases h
theorem decSvc_some {c : List AV} {a : SvcV} (h : decSvc c = some a) : c = encSvc a := by
  unfold decSvc at h; split at h
  · cases h; rfl
  · cases h
theorem decChg_some {c : List AV} {a : ChgV} (h : decChg c = some a) : c = encChg a := by
  unfold decChg at h; split at h
  · cases h; rfl
  · cases h
def fileErr (f : FileV) : Int := if pathB f.path = false then 5 else if (65536 : Int) < f.data.length then 4 else 0
def setErr (s : SetV) : Int := if pathB s.key = false then 5 else if valueB s.value = false then 2 else 0
def factErr (s : SetV) : Int := if nameB s.key = false then 5 else if valueB s.value = false then 2 else 0
def svcErr (s : SvcV) : Int := if nameB s.name = false ∨ pathB s.path = false then 5 else 0
def pathErr (p : Bytes) : Int := if pathB p = false then 5 else 0
def nameErr (p : Bytes) : Int := if nameB p = false then 5 else 0
/-- What is wrong with the part that a change needs; the change with that part alone. -/
def partErr (c : ChgV) : Int :=
  if c.kind = 1 then fileErr c.file else if c.kind = 2 then pathErr c.file.path else if c.kind = 3 then setErr c.set else if c.kind = 4 then pathErr c.set.key
  else if c.kind = 5 then svcErr c.svc else nameErr c.svc.name
def kept (c : ChgV) : ChgV :=
  if c.kind = 1 then ⟨c.kind, c.file, .zero, .zero⟩ else if c.kind = 2 then ⟨c.kind, ⟨c.file.path, [], false⟩, .zero, .zero⟩ else if c.kind = 3 then ⟨c.kind, .zero, c.set, .zero⟩ else if c.kind = 4 then ⟨c.kind, .zero, ⟨c.set.key, []⟩, .zero⟩
  else if c.kind = 5 then ⟨c.kind, .zero, .zero, c.svc⟩ else ⟨c.kind, .zero, .zero, ⟨c.svc.name, [], false, false⟩⟩
def chgErr (c : ChgV) : Int := if c.kind < 1 ∨ 6 < c.kind then 1 else if partErr c ≠ 0 then partErr c else if c ≠ kept c then 2 else 0
/-- The sizes that may be. -/
def roomy (s : Bytes) : Prop := s.length ≤ 1099511627776
instance (s : Bytes) : Decidable (roomy s) := inferInstanceAs (Decidable (_ ≤ _))
def fileR (f : FileV) : Prop := f.path.length ≤ 1099511627776 ∧ f.data.length ≤ 1099511627776
def setR (f : SetV) : Prop := f.key.length ≤ 1099511627776 ∧ f.value.length ≤ 1099511627776
def svcR (f : SvcV) : Prop := f.name.length ≤ 1099511627776 ∧ f.path.length ≤ 1099511627776
def chgR (c : ChgV) : Prop := fileR c.file ∧ setR c.set ∧ svcR c.svc
instance (f : FileV) : Decidable (fileR f) := inferInstanceAs (Decidable (_ ∧ _))
instance (f : SetV) : Decidable (setR f) := inferInstanceAs (Decidable (_ ∧ _))
instance (f : SvcV) : Decidable (svcR f) := inferInstanceAs (Decidable (_ ∧ _))
instance (f : ChgV) : Decidable (chgR f) := inferInstanceAs (Decidable (_ ∧ _ ∧ _))
end Go.Proofs

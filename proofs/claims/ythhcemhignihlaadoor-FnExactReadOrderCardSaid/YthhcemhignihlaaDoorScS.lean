/- The program's structs, as data. -/
import Derived.Test.YthhcemhignihlaaDoorScW
set_option linter.unusedSimpArgs false
set_option linter.unusedVariables false
namespace Go.SC
open Go

structure GIntResult where
  code : Int
  value : Int
  deriving DecidableEq
instance : Enc GIntResult := Enc.of (fun x => (x.code, x.value)) fun x y h => by cases x; cases y; simp_all
@[push_cast] theorem k_GIntResult : Enc.k GIntResult = 2 := (rfl)
instance : EncK GIntResult 2 := ⟨rfl⟩
@[push_cast] theorem enc_GIntResult (x : GIntResult) : enc x = [.int .i64 x.code, .int .i64 x.value] := (rfl)
@[push_cast] theorem eta_GIntResult (x : GIntResult) : GIntResult.mk x.code x.value = x := (rfl)
instance : Sz GIntResult := ⟨fun x => sm x.code ∧ sm x.value, fun x => tot x.code + tot x.value, fun x => rg x.code ∧ rg x.value⟩
theorem sm_GIntResult (x : GIntResult) : sm x = (sm x.code ∧ sm x.value) := (rfl)
theorem tot_GIntResult (x : GIntResult) : tot x = tot x.code + tot x.value := (rfl)

structure GIntsResult where
  code : Int
  list : List Int
  deriving DecidableEq
instance : Enc GIntsResult := Enc.of (fun x => (x.code, x.list)) fun x y h => by cases x; cases y; simp_all
@[push_cast] theorem k_GIntsResult : Enc.k GIntsResult = 2 := (rfl)
instance : EncK GIntsResult 2 := ⟨rfl⟩
@[push_cast] theorem enc_GIntsResult (x : GIntsResult) : enc x = [.int .i64 x.code, lst x.list] := (rfl)
@[push_cast] theorem eta_GIntsResult (x : GIntsResult) : GIntsResult.mk x.code x.list = x := (rfl)
instance : Sz GIntsResult := ⟨fun x => sm x.code ∧ sm x.list, fun x => tot x.code + tot x.list, fun x => rg x.code ∧ rg x.list⟩
theorem sm_GIntsResult (x : GIntsResult) : sm x = (sm x.code ∧ sm x.list) := (rfl)
theorem tot_GIntsResult (x : GIntsResult) : tot x = tot x.code + tot x.list := (rfl)

structure GBytesResult where
  code : Int
  bytes : List UInt8
  deriving DecidableEq
instance : Enc GBytesResult := Enc.of (fun x => (x.code, x.bytes)) fun x y h => by cases x; cases y; simp_all
@[push_cast] theorem k_GBytesResult : Enc.k GBytesResult = 2 := (rfl)
instance : EncK GBytesResult 2 := ⟨rfl⟩
@[push_cast] theorem enc_GBytesResult (x : GBytesResult) : enc x = [.int .i64 x.code, lst x.bytes] := (rfl)
@[push_cast] theorem eta_GBytesResult (x : GBytesResult) : GBytesResult.mk x.code x.bytes = x := (rfl)
instance : Sz GBytesResult := ⟨fun x => sm x.code ∧ sm x.bytes, fun x => tot x.code + tot x.bytes, fun x => rg x.code ∧ rg x.bytes⟩
theorem sm_GBytesResult (x : GBytesResult) : sm x = (sm x.code ∧ sm x.bytes) := (rfl)
theorem tot_GBytesResult (x : GBytesResult) : tot x = tot x.code + tot x.bytes := (rfl)

structure GTextResult where
  code : Int
  text : ByteArray
  deriving DecidableEq
instance : Enc GTextResult := Enc.of (fun x => (x.code, x.text)) fun x y h => by cases x; cases y; simp_all
@[push_cast] theorem k_GTextResult : Enc.k GTextResult = 2 := (rfl)
instance : EncK GTextResult 2 := ⟨rfl⟩
@[push_cast] theorem enc_GTextResult (x : GTextResult) : enc x = [.int .i64 x.code, .string x.text] := (rfl)
@[push_cast] theorem eta_GTextResult (x : GTextResult) : GTextResult.mk x.code x.text = x := (rfl)
instance : Sz GTextResult := ⟨fun x => sm x.code ∧ sm x.text, fun x => tot x.code + tot x.text, fun x => rg x.code ∧ rg x.text⟩
theorem sm_GTextResult (x : GTextResult) : sm x = (sm x.code ∧ sm x.text) := (rfl)
theorem tot_GTextResult (x : GTextResult) : tot x = tot x.code + tot x.text := (rfl)

structure GSymbol where
  name : ByteArray
  arity : Int
  deriving DecidableEq
instance : Enc GSymbol := Enc.of (fun x => (x.name, x.arity)) fun x y h => by cases x; cases y; simp_all
@[push_cast] theorem k_GSymbol : Enc.k GSymbol = 2 := (rfl)
instance : EncK GSymbol 2 := ⟨rfl⟩
@[push_cast] theorem enc_GSymbol (x : GSymbol) : enc x = [.string x.name, .int .i64 x.arity] := (rfl)
@[push_cast] theorem eta_GSymbol (x : GSymbol) : GSymbol.mk x.name x.arity = x := (rfl)
instance : Sz GSymbol := ⟨fun x => sm x.name ∧ sm x.arity, fun x => tot x.name + tot x.arity, fun x => rg x.name ∧ rg x.arity⟩
theorem sm_GSymbol (x : GSymbol) : sm x = (sm x.name ∧ sm x.arity) := (rfl)
theorem tot_GSymbol (x : GSymbol) : tot x = tot x.name + tot x.arity := (rfl)

structure GSignature where
  symbols : List GSymbol
  deriving DecidableEq
instance : Enc GSignature := Enc.of (fun x => x.symbols) fun x y h => by cases x; cases y; simp_all
@[push_cast] theorem k_GSignature : Enc.k GSignature = 1 := (rfl)
instance : EncK GSignature 1 := ⟨rfl⟩
@[push_cast] theorem enc_GSignature (x : GSignature) : enc x = [lst x.symbols] := (rfl)
@[push_cast] theorem eta_GSignature (x : GSignature) : GSignature.mk x.symbols = x := (rfl)
instance : Sz GSignature := ⟨fun x => sm x.symbols, fun x => tot x.symbols, fun x => rg x.symbols⟩
theorem sm_GSignature (x : GSignature) : sm x = (sm x.symbols) := (rfl)
theorem tot_GSignature (x : GSignature) : tot x = tot x.symbols := (rfl)

structure GSignatureResult where
  code : Int
  signature : GSignature
  deriving DecidableEq
instance : Enc GSignatureResult := Enc.of (fun x => (x.code, x.signature)) fun x y h => by cases x; cases y; simp_all
@[push_cast] theorem k_GSignatureResult : Enc.k GSignatureResult = 2 := (rfl)
instance : EncK GSignatureResult 2 := ⟨rfl⟩
@[push_cast] theorem enc_GSignatureResult (x : GSignatureResult) : enc x = [.int .i64 x.code, lst x.signature.symbols] := (rfl)
@[push_cast] theorem eta_GSignatureResult (x : GSignatureResult) : GSignatureResult.mk x.code x.signature = x := (rfl)
instance : Sz GSignatureResult := ⟨fun x => sm x.code ∧ sm x.signature, fun x => tot x.code + tot x.signature, fun x => rg x.code ∧ rg x.signature⟩
theorem sm_GSignatureResult (x : GSignatureResult) : sm x = (sm x.code ∧ sm x.signature) := (rfl)
theorem tot_GSignatureResult (x : GSignatureResult) : tot x = tot x.code + tot x.signature := (rfl)

structure GByteReader where
  rest : List UInt8
  failed : Bool
  deriving DecidableEq
instance : Enc GByteReader := Enc.of (fun x => (x.rest, x.failed)) fun x y h => by cases x; cases y; simp_all
@[push_cast] theorem k_GByteReader : Enc.k GByteReader = 2 := (rfl)
instance : EncK GByteReader 2 := ⟨rfl⟩
@[push_cast] theorem enc_GByteReader (x : GByteReader) : enc x = [lst x.rest, .bool x.failed] := (rfl)
@[push_cast] theorem eta_GByteReader (x : GByteReader) : GByteReader.mk x.rest x.failed = x := (rfl)
instance : Sz GByteReader := ⟨fun x => sm x.rest ∧ sm x.failed, fun x => tot x.rest + tot x.failed, fun x => rg x.rest ∧ rg x.failed⟩
theorem sm_GByteReader (x : GByteReader) : sm x = (sm x.rest ∧ sm x.failed) := (rfl)
theorem tot_GByteReader (x : GByteReader) : tot x = tot x.rest + tot x.failed := (rfl)

structure GTermResult where
  code : Int
  term : List Int
  deriving DecidableEq
instance : Enc GTermResult := Enc.of (fun x => (x.code, x.term)) fun x y h => by cases x; cases y; simp_all
@[push_cast] theorem k_GTermResult : Enc.k GTermResult = 2 := (rfl)
instance : EncK GTermResult 2 := ⟨rfl⟩
@[push_cast] theorem enc_GTermResult (x : GTermResult) : enc x = [.int .i64 x.code, lst x.term] := (rfl)
@[push_cast] theorem eta_GTermResult (x : GTermResult) : GTermResult.mk x.code x.term = x := (rfl)
instance : Sz GTermResult := ⟨fun x => sm x.code ∧ sm x.term, fun x => tot x.code + tot x.term, fun x => rg x.code ∧ rg x.term⟩
theorem sm_GTermResult (x : GTermResult) : sm x = (sm x.code ∧ sm x.term) := (rfl)
theorem tot_GTermResult (x : GTermResult) : tot x = tot x.code + tot x.term := (rfl)

structure GTermsResult where
  code : Int
  terms : List (List Int)
  deriving DecidableEq
instance : Enc GTermsResult := Enc.of (fun x => (x.code, x.terms)) fun x y h => by cases x; cases y; simp_all
@[push_cast] theorem k_GTermsResult : Enc.k GTermsResult = 2 := (rfl)
instance : EncK GTermsResult 2 := ⟨rfl⟩
@[push_cast] theorem enc_GTermsResult (x : GTermsResult) : enc x = [.int .i64 x.code, lst x.terms] := (rfl)
@[push_cast] theorem eta_GTermsResult (x : GTermsResult) : GTermsResult.mk x.code x.terms = x := (rfl)
instance : Sz GTermsResult := ⟨fun x => sm x.code ∧ sm x.terms, fun x => tot x.code + tot x.terms, fun x => rg x.code ∧ rg x.terms⟩
theorem sm_GTermsResult (x : GTermsResult) : sm x = (sm x.code ∧ sm x.terms) := (rfl)
theorem tot_GTermsResult (x : GTermsResult) : tot x = tot x.code + tot x.terms := (rfl)

structure GEquation where
  left : List Int
  right : List Int
  deriving DecidableEq
instance : Enc GEquation := Enc.of (fun x => (x.left, x.right)) fun x y h => by cases x; cases y; simp_all
@[push_cast] theorem k_GEquation : Enc.k GEquation = 2 := (rfl)
instance : EncK GEquation 2 := ⟨rfl⟩
@[push_cast] theorem enc_GEquation (x : GEquation) : enc x = [lst x.left, lst x.right] := (rfl)
@[push_cast] theorem eta_GEquation (x : GEquation) : GEquation.mk x.left x.right = x := (rfl)
instance : Sz GEquation := ⟨fun x => sm x.left ∧ sm x.right, fun x => tot x.left + tot x.right, fun x => rg x.left ∧ rg x.right⟩
theorem sm_GEquation (x : GEquation) : sm x = (sm x.left ∧ sm x.right) := (rfl)
theorem tot_GEquation (x : GEquation) : tot x = tot x.left + tot x.right := (rfl)

structure GEquationResult where
  code : Int
  equation : GEquation
  deriving DecidableEq
instance : Enc GEquationResult := Enc.of (fun x => (x.code, x.equation)) fun x y h => by cases x; cases y; simp_all
@[push_cast] theorem k_GEquationResult : Enc.k GEquationResult = 3 := (rfl)
instance : EncK GEquationResult 3 := ⟨rfl⟩
@[push_cast] theorem enc_GEquationResult (x : GEquationResult) : enc x = [.int .i64 x.code, lst x.equation.left, lst x.equation.right] := (rfl)
@[push_cast] theorem eta_GEquationResult (x : GEquationResult) : GEquationResult.mk x.code x.equation = x := (rfl)
instance : Sz GEquationResult := ⟨fun x => sm x.code ∧ sm x.equation, fun x => tot x.code + tot x.equation, fun x => rg x.code ∧ rg x.equation⟩
theorem sm_GEquationResult (x : GEquationResult) : sm x = (sm x.code ∧ sm x.equation) := (rfl)
theorem tot_GEquationResult (x : GEquationResult) : tot x = tot x.code + tot x.equation := (rfl)

structure GEquationsResult where
  code : Int
  list : List GEquation
  deriving DecidableEq
instance : Enc GEquationsResult := Enc.of (fun x => (x.code, x.list)) fun x y h => by cases x; cases y; simp_all
@[push_cast] theorem k_GEquationsResult : Enc.k GEquationsResult = 2 := (rfl)
instance : EncK GEquationsResult 2 := ⟨rfl⟩
@[push_cast] theorem enc_GEquationsResult (x : GEquationsResult) : enc x = [.int .i64 x.code, lst x.list] := (rfl)
@[push_cast] theorem eta_GEquationsResult (x : GEquationsResult) : GEquationsResult.mk x.code x.list = x := (rfl)
instance : Sz GEquationsResult := ⟨fun x => sm x.code ∧ sm x.list, fun x => tot x.code + tot x.list, fun x => rg x.code ∧ rg x.list⟩
theorem sm_GEquationsResult (x : GEquationsResult) : sm x = (sm x.code ∧ sm x.list) := (rfl)
theorem tot_GEquationsResult (x : GEquationsResult) : tot x = tot x.code + tot x.list := (rfl)

structure GKeyResult where
  code : Int
  normal : List Int
  term : List Int
  deriving DecidableEq
instance : Enc GKeyResult := Enc.of (fun x => (x.code, x.normal, x.term)) fun x y h => by cases x; cases y; simp_all
@[push_cast] theorem k_GKeyResult : Enc.k GKeyResult = 3 := (rfl)
instance : EncK GKeyResult 3 := ⟨rfl⟩
@[push_cast] theorem enc_GKeyResult (x : GKeyResult) : enc x = [.int .i64 x.code, lst x.normal, lst x.term] := (rfl)
@[push_cast] theorem eta_GKeyResult (x : GKeyResult) : GKeyResult.mk x.code x.normal x.term = x := (rfl)
instance : Sz GKeyResult := ⟨fun x => sm x.code ∧ sm x.normal ∧ sm x.term, fun x => tot x.code + tot x.normal + tot x.term, fun x => rg x.code ∧ rg x.normal ∧ rg x.term⟩
theorem sm_GKeyResult (x : GKeyResult) : sm x = (sm x.code ∧ sm x.normal ∧ sm x.term) := (rfl)
theorem tot_GKeyResult (x : GKeyResult) : tot x = tot x.code + tot x.normal + tot x.term := (rfl)

structure GBinding where
  vars : List Int
  terms : List (List Int)
  deriving DecidableEq
instance : Enc GBinding := Enc.of (fun x => (x.vars, x.terms)) fun x y h => by cases x; cases y; simp_all
@[push_cast] theorem k_GBinding : Enc.k GBinding = 2 := (rfl)
instance : EncK GBinding 2 := ⟨rfl⟩
@[push_cast] theorem enc_GBinding (x : GBinding) : enc x = [lst x.vars, lst x.terms] := (rfl)
@[push_cast] theorem eta_GBinding (x : GBinding) : GBinding.mk x.vars x.terms = x := (rfl)
instance : Sz GBinding := ⟨fun x => sm x.vars ∧ sm x.terms, fun x => tot x.vars + tot x.terms, fun x => rg x.vars ∧ rg x.terms⟩
theorem sm_GBinding (x : GBinding) : sm x = (sm x.vars ∧ sm x.terms) := (rfl)
theorem tot_GBinding (x : GBinding) : tot x = tot x.vars + tot x.terms := (rfl)

structure GBindingResult where
  code : Int
  binding : GBinding
  deriving DecidableEq
instance : Enc GBindingResult := Enc.of (fun x => (x.code, x.binding)) fun x y h => by cases x; cases y; simp_all
@[push_cast] theorem k_GBindingResult : Enc.k GBindingResult = 3 := (rfl)
instance : EncK GBindingResult 3 := ⟨rfl⟩
@[push_cast] theorem enc_GBindingResult (x : GBindingResult) : enc x = [.int .i64 x.code, lst x.binding.vars, lst x.binding.terms] := (rfl)
@[push_cast] theorem eta_GBindingResult (x : GBindingResult) : GBindingResult.mk x.code x.binding = x := (rfl)
instance : Sz GBindingResult := ⟨fun x => sm x.code ∧ sm x.binding, fun x => tot x.code + tot x.binding, fun x => rg x.code ∧ rg x.binding⟩
theorem sm_GBindingResult (x : GBindingResult) : sm x = (sm x.code ∧ sm x.binding) := (rfl)
theorem tot_GBindingResult (x : GBindingResult) : tot x = tot x.code + tot x.binding := (rfl)

structure GRedexResult where
  code : Int
  place : Int
  rule : Int
  deriving DecidableEq
instance : Enc GRedexResult := Enc.of (fun x => (x.code, x.place, x.rule)) fun x y h => by cases x; cases y; simp_all
@[push_cast] theorem k_GRedexResult : Enc.k GRedexResult = 3 := (rfl)
instance : EncK GRedexResult 3 := ⟨rfl⟩
@[push_cast] theorem enc_GRedexResult (x : GRedexResult) : enc x = [.int .i64 x.code, .int .i64 x.place, .int .i64 x.rule] := (rfl)
@[push_cast] theorem eta_GRedexResult (x : GRedexResult) : GRedexResult.mk x.code x.place x.rule = x := (rfl)
instance : Sz GRedexResult := ⟨fun x => sm x.code ∧ sm x.place ∧ sm x.rule, fun x => tot x.code + tot x.place + tot x.rule, fun x => rg x.code ∧ rg x.place ∧ rg x.rule⟩
theorem sm_GRedexResult (x : GRedexResult) : sm x = (sm x.code ∧ sm x.place ∧ sm x.rule) := (rfl)
theorem tot_GRedexResult (x : GRedexResult) : tot x = tot x.code + tot x.place + tot x.rule := (rfl)

structure GNormalResult where
  code : Int
  term : List Int
  steps : Int
  deriving DecidableEq
instance : Enc GNormalResult := Enc.of (fun x => (x.code, x.term, x.steps)) fun x y h => by cases x; cases y; simp_all
@[push_cast] theorem k_GNormalResult : Enc.k GNormalResult = 3 := (rfl)
instance : EncK GNormalResult 3 := ⟨rfl⟩
@[push_cast] theorem enc_GNormalResult (x : GNormalResult) : enc x = [.int .i64 x.code, lst x.term, .int .i64 x.steps] := (rfl)
@[push_cast] theorem eta_GNormalResult (x : GNormalResult) : GNormalResult.mk x.code x.term x.steps = x := (rfl)
instance : Sz GNormalResult := ⟨fun x => sm x.code ∧ sm x.term ∧ sm x.steps, fun x => tot x.code + tot x.term + tot x.steps, fun x => rg x.code ∧ rg x.term ∧ rg x.steps⟩
theorem sm_GNormalResult (x : GNormalResult) : sm x = (sm x.code ∧ sm x.term ∧ sm x.steps) := (rfl)
theorem tot_GNormalResult (x : GNormalResult) : tot x = tot x.code + tot x.term + tot x.steps := (rfl)

structure GAlgebra where
  size : Int
  tables : List (List Int)
  deriving DecidableEq
instance : Enc GAlgebra := Enc.of (fun x => (x.size, x.tables)) fun x y h => by cases x; cases y; simp_all
@[push_cast] theorem k_GAlgebra : Enc.k GAlgebra = 2 := (rfl)
instance : EncK GAlgebra 2 := ⟨rfl⟩
@[push_cast] theorem enc_GAlgebra (x : GAlgebra) : enc x = [.int .i64 x.size, lst x.tables] := (rfl)
@[push_cast] theorem eta_GAlgebra (x : GAlgebra) : GAlgebra.mk x.size x.tables = x := (rfl)
instance : Sz GAlgebra := ⟨fun x => sm x.size ∧ sm x.tables, fun x => tot x.size + tot x.tables, fun x => rg x.size ∧ rg x.tables⟩
theorem sm_GAlgebra (x : GAlgebra) : sm x = (sm x.size ∧ sm x.tables) := (rfl)
theorem tot_GAlgebra (x : GAlgebra) : tot x = tot x.size + tot x.tables := (rfl)

structure GAlgebraResult where
  code : Int
  algebra : GAlgebra
  deriving DecidableEq
instance : Enc GAlgebraResult := Enc.of (fun x => (x.code, x.algebra)) fun x y h => by cases x; cases y; simp_all
@[push_cast] theorem k_GAlgebraResult : Enc.k GAlgebraResult = 3 := (rfl)
instance : EncK GAlgebraResult 3 := ⟨rfl⟩
@[push_cast] theorem enc_GAlgebraResult (x : GAlgebraResult) : enc x = [.int .i64 x.code, .int .i64 x.algebra.size, lst x.algebra.tables] := (rfl)
@[push_cast] theorem eta_GAlgebraResult (x : GAlgebraResult) : GAlgebraResult.mk x.code x.algebra = x := (rfl)
instance : Sz GAlgebraResult := ⟨fun x => sm x.code ∧ sm x.algebra, fun x => tot x.code + tot x.algebra, fun x => rg x.code ∧ rg x.algebra⟩
theorem sm_GAlgebraResult (x : GAlgebraResult) : sm x = (sm x.code ∧ sm x.algebra) := (rfl)
theorem tot_GAlgebraResult (x : GAlgebraResult) : tot x = tot x.code + tot x.algebra := (rfl)

structure GEntry where
  kind : Int
  a : Int
  b : Int
  place : Int
  side : Int
  left : List Int
  right : List Int
  deriving DecidableEq
instance : Enc GEntry := Enc.of (fun x => (x.kind, x.a, x.b, x.place, x.side, x.left, x.right)) fun x y h => by cases x; cases y; simp_all
@[push_cast] theorem k_GEntry : Enc.k GEntry = 7 := (rfl)
instance : EncK GEntry 7 := ⟨rfl⟩
@[push_cast] theorem enc_GEntry (x : GEntry) : enc x = [.int .i64 x.kind, .int .i64 x.a, .int .i64 x.b, .int .i64 x.place, .int .i64 x.side, lst x.left, lst x.right] := (rfl)
@[push_cast] theorem eta_GEntry (x : GEntry) : GEntry.mk x.kind x.a x.b x.place x.side x.left x.right = x := (rfl)
instance : Sz GEntry := ⟨fun x => sm x.kind ∧ sm x.a ∧ sm x.b ∧ sm x.place ∧ sm x.side ∧ sm x.left ∧ sm x.right, fun x => tot x.kind + tot x.a + tot x.b + tot x.place + tot x.side + tot x.left + tot x.right, fun x => rg x.kind ∧ rg x.a ∧ rg x.b ∧ rg x.place ∧ rg x.side ∧ rg x.left ∧ rg x.right⟩
theorem sm_GEntry (x : GEntry) : sm x = (sm x.kind ∧ sm x.a ∧ sm x.b ∧ sm x.place ∧ sm x.side ∧ sm x.left ∧ sm x.right) := (rfl)
theorem tot_GEntry (x : GEntry) : tot x = tot x.kind + tot x.a + tot x.b + tot x.place + tot x.side + tot x.left + tot x.right := (rfl)

structure GEntryResult where
  code : Int
  entry : GEntry
  deriving DecidableEq
instance : Enc GEntryResult := Enc.of (fun x => (x.code, x.entry)) fun x y h => by cases x; cases y; simp_all
@[push_cast] theorem k_GEntryResult : Enc.k GEntryResult = 8 := (rfl)
instance : EncK GEntryResult 8 := ⟨rfl⟩
@[push_cast] theorem enc_GEntryResult (x : GEntryResult) : enc x = [.int .i64 x.code, .int .i64 x.entry.kind, .int .i64 x.entry.a, .int .i64 x.entry.b, .int .i64 x.entry.place, .int .i64 x.entry.side, lst x.entry.left, lst x.entry.right] := (rfl)
@[push_cast] theorem eta_GEntryResult (x : GEntryResult) : GEntryResult.mk x.code x.entry = x := (rfl)
instance : Sz GEntryResult := ⟨fun x => sm x.code ∧ sm x.entry, fun x => tot x.code + tot x.entry, fun x => rg x.code ∧ rg x.entry⟩
theorem sm_GEntryResult (x : GEntryResult) : sm x = (sm x.code ∧ sm x.entry) := (rfl)
theorem tot_GEntryResult (x : GEntryResult) : tot x = tot x.code + tot x.entry := (rfl)

structure GCompletion where
  order : List Int
  equations : List GEquation
  entries : List GEntry
  rules : List Int
  waiting : List Int
  rounds : Int
  deriving DecidableEq
instance : Enc GCompletion := Enc.of (fun x => (x.order, x.equations, x.entries, x.rules, x.waiting, x.rounds)) fun x y h => by cases x; cases y; simp_all
@[push_cast] theorem k_GCompletion : Enc.k GCompletion = 6 := (rfl)
instance : EncK GCompletion 6 := ⟨rfl⟩
@[push_cast] theorem enc_GCompletion (x : GCompletion) : enc x = [lst x.order, lst x.equations, lst x.entries, lst x.rules, lst x.waiting, .int .i64 x.rounds] := (rfl)
@[push_cast] theorem eta_GCompletion (x : GCompletion) : GCompletion.mk x.order x.equations x.entries x.rules x.waiting x.rounds = x := (rfl)
instance : Sz GCompletion := ⟨fun x => sm x.order ∧ sm x.equations ∧ sm x.entries ∧ sm x.rules ∧ sm x.waiting ∧ sm x.rounds, fun x => tot x.order + tot x.equations + tot x.entries + tot x.rules + tot x.waiting + tot x.rounds, fun x => rg x.order ∧ rg x.equations ∧ rg x.entries ∧ rg x.rules ∧ rg x.waiting ∧ rg x.rounds⟩
theorem sm_GCompletion (x : GCompletion) : sm x = (sm x.order ∧ sm x.equations ∧ sm x.entries ∧ sm x.rules ∧ sm x.waiting ∧ sm x.rounds) := (rfl)
theorem tot_GCompletion (x : GCompletion) : tot x = tot x.order + tot x.equations + tot x.entries + tot x.rules + tot x.waiting + tot x.rounds := (rfl)

structure GCompletionResult where
  code : Int
  completion : GCompletion
  deriving DecidableEq
instance : Enc GCompletionResult := Enc.of (fun x => (x.code, x.completion)) fun x y h => by cases x; cases y; simp_all
@[push_cast] theorem k_GCompletionResult : Enc.k GCompletionResult = 7 := (rfl)
instance : EncK GCompletionResult 7 := ⟨rfl⟩
@[push_cast] theorem enc_GCompletionResult (x : GCompletionResult) : enc x = [.int .i64 x.code, lst x.completion.order, lst x.completion.equations, lst x.completion.entries, lst x.completion.rules, lst x.completion.waiting, .int .i64 x.completion.rounds] := (rfl)
@[push_cast] theorem eta_GCompletionResult (x : GCompletionResult) : GCompletionResult.mk x.code x.completion = x := (rfl)
instance : Sz GCompletionResult := ⟨fun x => sm x.code ∧ sm x.completion, fun x => tot x.code + tot x.completion, fun x => rg x.code ∧ rg x.completion⟩
theorem sm_GCompletionResult (x : GCompletionResult) : sm x = (sm x.code ∧ sm x.completion) := (rfl)
theorem tot_GCompletionResult (x : GCompletionResult) : tot x = tot x.code + tot x.completion := (rfl)

structure GCompleter where
  s : GSignature
  c : GCompletion
  code : Int
  deriving DecidableEq
instance : Enc GCompleter := Enc.of (fun x => (x.s, x.c, x.code)) fun x y h => by cases x; cases y; simp_all
@[push_cast] theorem k_GCompleter : Enc.k GCompleter = 8 := (rfl)
instance : EncK GCompleter 8 := ⟨rfl⟩
@[push_cast] theorem enc_GCompleter (x : GCompleter) : enc x = [lst x.s.symbols, lst x.c.order, lst x.c.equations, lst x.c.entries, lst x.c.rules, lst x.c.waiting, .int .i64 x.c.rounds, .int .i64 x.code] := (rfl)
@[push_cast] theorem eta_GCompleter (x : GCompleter) : GCompleter.mk x.s x.c x.code = x := (rfl)
instance : Sz GCompleter := ⟨fun x => sm x.s ∧ sm x.c ∧ sm x.code, fun x => tot x.s + tot x.c + tot x.code, fun x => rg x.s ∧ rg x.c ∧ rg x.code⟩
theorem sm_GCompleter (x : GCompleter) : sm x = (sm x.s ∧ sm x.c ∧ sm x.code) := (rfl)
theorem tot_GCompleter (x : GCompleter) : tot x = tot x.s + tot x.c + tot x.code := (rfl)

structure GTheory where
  order : List Int
  equations : List GEquation
  rules : List GEquation
  deriving DecidableEq
instance : Enc GTheory := Enc.of (fun x => (x.order, x.equations, x.rules)) fun x y h => by cases x; cases y; simp_all
@[push_cast] theorem k_GTheory : Enc.k GTheory = 3 := (rfl)
instance : EncK GTheory 3 := ⟨rfl⟩
@[push_cast] theorem enc_GTheory (x : GTheory) : enc x = [lst x.order, lst x.equations, lst x.rules] := (rfl)
@[push_cast] theorem eta_GTheory (x : GTheory) : GTheory.mk x.order x.equations x.rules = x := (rfl)
instance : Sz GTheory := ⟨fun x => sm x.order ∧ sm x.equations ∧ sm x.rules, fun x => tot x.order + tot x.equations + tot x.rules, fun x => rg x.order ∧ rg x.equations ∧ rg x.rules⟩
theorem sm_GTheory (x : GTheory) : sm x = (sm x.order ∧ sm x.equations ∧ sm x.rules) := (rfl)
theorem tot_GTheory (x : GTheory) : tot x = tot x.order + tot x.equations + tot x.rules := (rfl)

structure GTheoryResult where
  code : Int
  theory : GTheory
  deriving DecidableEq
instance : Enc GTheoryResult := Enc.of (fun x => (x.code, x.theory)) fun x y h => by cases x; cases y; simp_all
@[push_cast] theorem k_GTheoryResult : Enc.k GTheoryResult = 4 := (rfl)
instance : EncK GTheoryResult 4 := ⟨rfl⟩
@[push_cast] theorem enc_GTheoryResult (x : GTheoryResult) : enc x = [.int .i64 x.code, lst x.theory.order, lst x.theory.equations, lst x.theory.rules] := (rfl)
@[push_cast] theorem eta_GTheoryResult (x : GTheoryResult) : GTheoryResult.mk x.code x.theory = x := (rfl)
instance : Sz GTheoryResult := ⟨fun x => sm x.code ∧ sm x.theory, fun x => tot x.code + tot x.theory, fun x => rg x.code ∧ rg x.theory⟩
theorem sm_GTheoryResult (x : GTheoryResult) : sm x = (sm x.code ∧ sm x.theory) := (rfl)
theorem tot_GTheoryResult (x : GTheoryResult) : tot x = tot x.code + tot x.theory := (rfl)

structure GPut where
  sector : Int
  bytes : List UInt8
  deriving DecidableEq
instance : Enc GPut := Enc.of (fun x => (x.sector, x.bytes)) fun x y h => by cases x; cases y; simp_all
@[push_cast] theorem k_GPut : Enc.k GPut = 2 := (rfl)
instance : EncK GPut 2 := ⟨rfl⟩
@[push_cast] theorem enc_GPut (x : GPut) : enc x = [.int .i64 x.sector, lst x.bytes] := (rfl)
@[push_cast] theorem eta_GPut (x : GPut) : GPut.mk x.sector x.bytes = x := (rfl)
instance : Sz GPut := ⟨fun x => sm x.sector ∧ sm x.bytes, fun x => tot x.sector + tot x.bytes, fun x => rg x.sector ∧ rg x.bytes⟩
theorem sm_GPut (x : GPut) : sm x = (sm x.sector ∧ sm x.bytes) := (rfl)
theorem tot_GPut (x : GPut) : tot x = tot x.sector + tot x.bytes := (rfl)

structure GDisk where
  sectors : List (List UInt8)
  pending : List GPut
  deriving DecidableEq
instance : Enc GDisk := Enc.of (fun x => (x.sectors, x.pending)) fun x y h => by cases x; cases y; simp_all
@[push_cast] theorem k_GDisk : Enc.k GDisk = 2 := (rfl)
instance : EncK GDisk 2 := ⟨rfl⟩
@[push_cast] theorem enc_GDisk (x : GDisk) : enc x = [lst x.sectors, lst x.pending] := (rfl)
@[push_cast] theorem eta_GDisk (x : GDisk) : GDisk.mk x.sectors x.pending = x := (rfl)
instance : Sz GDisk := ⟨fun x => sm x.sectors ∧ sm x.pending, fun x => tot x.sectors + tot x.pending, fun x => rg x.sectors ∧ rg x.pending⟩
theorem sm_GDisk (x : GDisk) : sm x = (sm x.sectors ∧ sm x.pending) := (rfl)
theorem tot_GDisk (x : GDisk) : tot x = tot x.sectors + tot x.pending := (rfl)

structure GAct where
  kind : Int
  put : GPut
  deriving DecidableEq
instance : Enc GAct := Enc.of (fun x => (x.kind, x.put)) fun x y h => by cases x; cases y; simp_all
@[push_cast] theorem k_GAct : Enc.k GAct = 3 := (rfl)
instance : EncK GAct 3 := ⟨rfl⟩
@[push_cast] theorem enc_GAct (x : GAct) : enc x = [.int .i64 x.kind, .int .i64 x.put.sector, lst x.put.bytes] := (rfl)
@[push_cast] theorem eta_GAct (x : GAct) : GAct.mk x.kind x.put = x := (rfl)
instance : Sz GAct := ⟨fun x => sm x.kind ∧ sm x.put, fun x => tot x.kind + tot x.put, fun x => rg x.kind ∧ rg x.put⟩
theorem sm_GAct (x : GAct) : sm x = (sm x.kind ∧ sm x.put) := (rfl)
theorem tot_GAct (x : GAct) : tot x = tot x.kind + tot x.put := (rfl)

structure GDiskResult where
  code : Int
  disk : GDisk
  deriving DecidableEq
instance : Enc GDiskResult := Enc.of (fun x => (x.code, x.disk)) fun x y h => by cases x; cases y; simp_all
@[push_cast] theorem k_GDiskResult : Enc.k GDiskResult = 3 := (rfl)
instance : EncK GDiskResult 3 := ⟨rfl⟩
@[push_cast] theorem enc_GDiskResult (x : GDiskResult) : enc x = [.int .i64 x.code, lst x.disk.sectors, lst x.disk.pending] := (rfl)
@[push_cast] theorem eta_GDiskResult (x : GDiskResult) : GDiskResult.mk x.code x.disk = x := (rfl)
instance : Sz GDiskResult := ⟨fun x => sm x.code ∧ sm x.disk, fun x => tot x.code + tot x.disk, fun x => rg x.code ∧ rg x.disk⟩
theorem sm_GDiskResult (x : GDiskResult) : sm x = (sm x.code ∧ sm x.disk) := (rfl)
theorem tot_GDiskResult (x : GDiskResult) : tot x = tot x.code + tot x.disk := (rfl)

structure GPage where
  kind : Int
  id : Int
  body : List UInt8
  deriving DecidableEq
instance : Enc GPage := Enc.of (fun x => (x.kind, x.id, x.body)) fun x y h => by cases x; cases y; simp_all
@[push_cast] theorem k_GPage : Enc.k GPage = 3 := (rfl)
instance : EncK GPage 3 := ⟨rfl⟩
@[push_cast] theorem enc_GPage (x : GPage) : enc x = [.int .i64 x.kind, .int .i64 x.id, lst x.body] := (rfl)
@[push_cast] theorem eta_GPage (x : GPage) : GPage.mk x.kind x.id x.body = x := (rfl)
instance : Sz GPage := ⟨fun x => sm x.kind ∧ sm x.id ∧ sm x.body, fun x => tot x.kind + tot x.id + tot x.body, fun x => rg x.kind ∧ rg x.id ∧ rg x.body⟩
theorem sm_GPage (x : GPage) : sm x = (sm x.kind ∧ sm x.id ∧ sm x.body) := (rfl)
theorem tot_GPage (x : GPage) : tot x = tot x.kind + tot x.id + tot x.body := (rfl)

structure GNode where
  leaf : Bool
  keys : List (List UInt8)
  values : List Int
  kids : List Int
  deriving DecidableEq
instance : Enc GNode := Enc.of (fun x => (x.leaf, x.keys, x.values, x.kids)) fun x y h => by cases x; cases y; simp_all
@[push_cast] theorem k_GNode : Enc.k GNode = 4 := (rfl)
instance : EncK GNode 4 := ⟨rfl⟩
@[push_cast] theorem enc_GNode (x : GNode) : enc x = [.bool x.leaf, lst x.keys, lst x.values, lst x.kids] := (rfl)
@[push_cast] theorem eta_GNode (x : GNode) : GNode.mk x.leaf x.keys x.values x.kids = x := (rfl)
instance : Sz GNode := ⟨fun x => sm x.leaf ∧ sm x.keys ∧ sm x.values ∧ sm x.kids, fun x => tot x.leaf + tot x.keys + tot x.values + tot x.kids, fun x => rg x.leaf ∧ rg x.keys ∧ rg x.values ∧ rg x.kids⟩
theorem sm_GNode (x : GNode) : sm x = (sm x.leaf ∧ sm x.keys ∧ sm x.values ∧ sm x.kids) := (rfl)
theorem tot_GNode (x : GNode) : tot x = tot x.leaf + tot x.keys + tot x.values + tot x.kids := (rfl)

structure GPageResult where
  code : Int
  page : GPage
  deriving DecidableEq
instance : Enc GPageResult := Enc.of (fun x => (x.code, x.page)) fun x y h => by cases x; cases y; simp_all
@[push_cast] theorem k_GPageResult : Enc.k GPageResult = 4 := (rfl)
instance : EncK GPageResult 4 := ⟨rfl⟩
@[push_cast] theorem enc_GPageResult (x : GPageResult) : enc x = [.int .i64 x.code, .int .i64 x.page.kind, .int .i64 x.page.id, lst x.page.body] := (rfl)
@[push_cast] theorem eta_GPageResult (x : GPageResult) : GPageResult.mk x.code x.page = x := (rfl)
instance : Sz GPageResult := ⟨fun x => sm x.code ∧ sm x.page, fun x => tot x.code + tot x.page, fun x => rg x.code ∧ rg x.page⟩
theorem sm_GPageResult (x : GPageResult) : sm x = (sm x.code ∧ sm x.page) := (rfl)
theorem tot_GPageResult (x : GPageResult) : tot x = tot x.code + tot x.page := (rfl)

structure GNodeResult where
  code : Int
  node : GNode
  deriving DecidableEq
instance : Enc GNodeResult := Enc.of (fun x => (x.code, x.node)) fun x y h => by cases x; cases y; simp_all
@[push_cast] theorem k_GNodeResult : Enc.k GNodeResult = 5 := (rfl)
instance : EncK GNodeResult 5 := ⟨rfl⟩
@[push_cast] theorem enc_GNodeResult (x : GNodeResult) : enc x = [.int .i64 x.code, .bool x.node.leaf, lst x.node.keys, lst x.node.values, lst x.node.kids] := (rfl)
@[push_cast] theorem eta_GNodeResult (x : GNodeResult) : GNodeResult.mk x.code x.node = x := (rfl)
instance : Sz GNodeResult := ⟨fun x => sm x.code ∧ sm x.node, fun x => tot x.code + tot x.node, fun x => rg x.code ∧ rg x.node⟩
theorem sm_GNodeResult (x : GNodeResult) : sm x = (sm x.code ∧ sm x.node) := (rfl)
theorem tot_GNodeResult (x : GNodeResult) : tot x = tot x.code + tot x.node := (rfl)

structure GChainResult where
  code : Int
  bytes : List UInt8
  pages : List Int
  deriving DecidableEq
instance : Enc GChainResult := Enc.of (fun x => (x.code, x.bytes, x.pages)) fun x y h => by cases x; cases y; simp_all
@[push_cast] theorem k_GChainResult : Enc.k GChainResult = 3 := (rfl)
instance : EncK GChainResult 3 := ⟨rfl⟩
@[push_cast] theorem enc_GChainResult (x : GChainResult) : enc x = [.int .i64 x.code, lst x.bytes, lst x.pages] := (rfl)
@[push_cast] theorem eta_GChainResult (x : GChainResult) : GChainResult.mk x.code x.bytes x.pages = x := (rfl)
instance : Sz GChainResult := ⟨fun x => sm x.code ∧ sm x.bytes ∧ sm x.pages, fun x => tot x.code + tot x.bytes + tot x.pages, fun x => rg x.code ∧ rg x.bytes ∧ rg x.pages⟩
theorem sm_GChainResult (x : GChainResult) : sm x = (sm x.code ∧ sm x.bytes ∧ sm x.pages) := (rfl)
theorem tot_GChainResult (x : GChainResult) : tot x = tot x.code + tot x.bytes + tot x.pages := (rfl)

structure GDraft where
  disk : GDisk
  kept : List Int
  taken : List Int
  deriving DecidableEq
instance : Enc GDraft := Enc.of (fun x => (x.disk, x.kept, x.taken)) fun x y h => by cases x; cases y; simp_all
@[push_cast] theorem k_GDraft : Enc.k GDraft = 4 := (rfl)
instance : EncK GDraft 4 := ⟨rfl⟩
@[push_cast] theorem enc_GDraft (x : GDraft) : enc x = [lst x.disk.sectors, lst x.disk.pending, lst x.kept, lst x.taken] := (rfl)
@[push_cast] theorem eta_GDraft (x : GDraft) : GDraft.mk x.disk x.kept x.taken = x := (rfl)
instance : Sz GDraft := ⟨fun x => sm x.disk ∧ sm x.kept ∧ sm x.taken, fun x => tot x.disk + tot x.kept + tot x.taken, fun x => rg x.disk ∧ rg x.kept ∧ rg x.taken⟩
theorem sm_GDraft (x : GDraft) : sm x = (sm x.disk ∧ sm x.kept ∧ sm x.taken) := (rfl)
theorem tot_GDraft (x : GDraft) : tot x = tot x.disk + tot x.kept + tot x.taken := (rfl)

structure GDraftResult where
  code : Int
  draft : GDraft
  deriving DecidableEq
instance : Enc GDraftResult := Enc.of (fun x => (x.code, x.draft)) fun x y h => by cases x; cases y; simp_all
@[push_cast] theorem k_GDraftResult : Enc.k GDraftResult = 5 := (rfl)
instance : EncK GDraftResult 5 := ⟨rfl⟩
@[push_cast] theorem enc_GDraftResult (x : GDraftResult) : enc x = [.int .i64 x.code, lst x.draft.disk.sectors, lst x.draft.disk.pending, lst x.draft.kept, lst x.draft.taken] := (rfl)
@[push_cast] theorem eta_GDraftResult (x : GDraftResult) : GDraftResult.mk x.code x.draft = x := (rfl)
instance : Sz GDraftResult := ⟨fun x => sm x.code ∧ sm x.draft, fun x => tot x.code + tot x.draft, fun x => rg x.code ∧ rg x.draft⟩
theorem sm_GDraftResult (x : GDraftResult) : sm x = (sm x.code ∧ sm x.draft) := (rfl)
theorem tot_GDraftResult (x : GDraftResult) : tot x = tot x.code + tot x.draft := (rfl)

structure GLaidResult where
  code : Int
  draft : GDraft
  page : Int
  deriving DecidableEq
instance : Enc GLaidResult := Enc.of (fun x => (x.code, x.draft, x.page)) fun x y h => by cases x; cases y; simp_all
@[push_cast] theorem k_GLaidResult : Enc.k GLaidResult = 6 := (rfl)
instance : EncK GLaidResult 6 := ⟨rfl⟩
@[push_cast] theorem enc_GLaidResult (x : GLaidResult) : enc x = [.int .i64 x.code, lst x.draft.disk.sectors, lst x.draft.disk.pending, lst x.draft.kept, lst x.draft.taken, .int .i64 x.page] := (rfl)
@[push_cast] theorem eta_GLaidResult (x : GLaidResult) : GLaidResult.mk x.code x.draft x.page = x := (rfl)
instance : Sz GLaidResult := ⟨fun x => sm x.code ∧ sm x.draft ∧ sm x.page, fun x => tot x.code + tot x.draft + tot x.page, fun x => rg x.code ∧ rg x.draft ∧ rg x.page⟩
theorem sm_GLaidResult (x : GLaidResult) : sm x = (sm x.code ∧ sm x.draft ∧ sm x.page) := (rfl)
theorem tot_GLaidResult (x : GLaidResult) : tot x = tot x.code + tot x.draft + tot x.page := (rfl)

structure GActsResult where
  code : Int
  acts : List GAct
  deriving DecidableEq
instance : Enc GActsResult := Enc.of (fun x => (x.code, x.acts)) fun x y h => by cases x; cases y; simp_all
@[push_cast] theorem k_GActsResult : Enc.k GActsResult = 2 := (rfl)
instance : EncK GActsResult 2 := ⟨rfl⟩
@[push_cast] theorem enc_GActsResult (x : GActsResult) : enc x = [.int .i64 x.code, lst x.acts] := (rfl)
@[push_cast] theorem eta_GActsResult (x : GActsResult) : GActsResult.mk x.code x.acts = x := (rfl)
instance : Sz GActsResult := ⟨fun x => sm x.code ∧ sm x.acts, fun x => tot x.code + tot x.acts, fun x => rg x.code ∧ rg x.acts⟩
theorem sm_GActsResult (x : GActsResult) : sm x = (sm x.code ∧ sm x.acts) := (rfl)
theorem tot_GActsResult (x : GActsResult) : tot x = tot x.code + tot x.acts := (rfl)

structure GRow where
  key : List UInt8
  value : Int
  deriving DecidableEq
instance : Enc GRow := Enc.of (fun x => (x.key, x.value)) fun x y h => by cases x; cases y; simp_all
@[push_cast] theorem k_GRow : Enc.k GRow = 2 := (rfl)
instance : EncK GRow 2 := ⟨rfl⟩
@[push_cast] theorem enc_GRow (x : GRow) : enc x = [lst x.key, .int .i64 x.value] := (rfl)
@[push_cast] theorem eta_GRow (x : GRow) : GRow.mk x.key x.value = x := (rfl)
instance : Sz GRow := ⟨fun x => sm x.key ∧ sm x.value, fun x => tot x.key + tot x.value, fun x => rg x.key ∧ rg x.value⟩
theorem sm_GRow (x : GRow) : sm x = (sm x.key ∧ sm x.value) := (rfl)
theorem tot_GRow (x : GRow) : tot x = tot x.key + tot x.value := (rfl)

structure GRowsResult where
  code : Int
  rows : List GRow
  deriving DecidableEq
instance : Enc GRowsResult := Enc.of (fun x => (x.code, x.rows)) fun x y h => by cases x; cases y; simp_all
@[push_cast] theorem k_GRowsResult : Enc.k GRowsResult = 2 := (rfl)
instance : EncK GRowsResult 2 := ⟨rfl⟩
@[push_cast] theorem enc_GRowsResult (x : GRowsResult) : enc x = [.int .i64 x.code, lst x.rows] := (rfl)
@[push_cast] theorem eta_GRowsResult (x : GRowsResult) : GRowsResult.mk x.code x.rows = x := (rfl)
instance : Sz GRowsResult := ⟨fun x => sm x.code ∧ sm x.rows, fun x => tot x.code + tot x.rows, fun x => rg x.code ∧ rg x.rows⟩
theorem sm_GRowsResult (x : GRowsResult) : sm x = (sm x.code ∧ sm x.rows) := (rfl)
theorem tot_GRowsResult (x : GRowsResult) : tot x = tot x.code + tot x.rows := (rfl)

structure GTreeResult where
  code : Int
  draft : GDraft
  root : Int
  deriving DecidableEq
instance : Enc GTreeResult := Enc.of (fun x => (x.code, x.draft, x.root)) fun x y h => by cases x; cases y; simp_all
@[push_cast] theorem k_GTreeResult : Enc.k GTreeResult = 6 := (rfl)
instance : EncK GTreeResult 6 := ⟨rfl⟩
@[push_cast] theorem enc_GTreeResult (x : GTreeResult) : enc x = [.int .i64 x.code, lst x.draft.disk.sectors, lst x.draft.disk.pending, lst x.draft.kept, lst x.draft.taken, .int .i64 x.root] := (rfl)
@[push_cast] theorem eta_GTreeResult (x : GTreeResult) : GTreeResult.mk x.code x.draft x.root = x := (rfl)
instance : Sz GTreeResult := ⟨fun x => sm x.code ∧ sm x.draft ∧ sm x.root, fun x => tot x.code + tot x.draft + tot x.root, fun x => rg x.code ∧ rg x.draft ∧ rg x.root⟩
theorem sm_GTreeResult (x : GTreeResult) : sm x = (sm x.code ∧ sm x.draft ∧ sm x.root) := (rfl)
theorem tot_GTreeResult (x : GTreeResult) : tot x = tot x.code + tot x.draft + tot x.root := (rfl)

structure GTreeWalk where
  disk : GDisk
  pages : List Int
  rows : List GRow
  depth : Int
  deriving DecidableEq
instance : Enc GTreeWalk := Enc.of (fun x => (x.disk, x.pages, x.rows, x.depth)) fun x y h => by cases x; cases y; simp_all
@[push_cast] theorem k_GTreeWalk : Enc.k GTreeWalk = 5 := (rfl)
instance : EncK GTreeWalk 5 := ⟨rfl⟩
@[push_cast] theorem enc_GTreeWalk (x : GTreeWalk) : enc x = [lst x.disk.sectors, lst x.disk.pending, lst x.pages, lst x.rows, .int .i64 x.depth] := (rfl)
@[push_cast] theorem eta_GTreeWalk (x : GTreeWalk) : GTreeWalk.mk x.disk x.pages x.rows x.depth = x := (rfl)
instance : Sz GTreeWalk := ⟨fun x => sm x.disk ∧ sm x.pages ∧ sm x.rows ∧ sm x.depth, fun x => tot x.disk + tot x.pages + tot x.rows + tot x.depth, fun x => rg x.disk ∧ rg x.pages ∧ rg x.rows ∧ rg x.depth⟩
theorem sm_GTreeWalk (x : GTreeWalk) : sm x = (sm x.disk ∧ sm x.pages ∧ sm x.rows ∧ sm x.depth) := (rfl)
theorem tot_GTreeWalk (x : GTreeWalk) : tot x = tot x.disk + tot x.pages + tot x.rows + tot x.depth := (rfl)

structure GSplit where
  page : Int
  key : List UInt8
  second : Int
  deriving DecidableEq
instance : Enc GSplit := Enc.of (fun x => (x.page, x.key, x.second)) fun x y h => by cases x; cases y; simp_all
@[push_cast] theorem k_GSplit : Enc.k GSplit = 3 := (rfl)
instance : EncK GSplit 3 := ⟨rfl⟩
@[push_cast] theorem enc_GSplit (x : GSplit) : enc x = [.int .i64 x.page, lst x.key, .int .i64 x.second] := (rfl)
@[push_cast] theorem eta_GSplit (x : GSplit) : GSplit.mk x.page x.key x.second = x := (rfl)
instance : Sz GSplit := ⟨fun x => sm x.page ∧ sm x.key ∧ sm x.second, fun x => tot x.page + tot x.key + tot x.second, fun x => rg x.page ∧ rg x.key ∧ rg x.second⟩
theorem sm_GSplit (x : GSplit) : sm x = (sm x.page ∧ sm x.key ∧ sm x.second) := (rfl)
theorem tot_GSplit (x : GSplit) : tot x = tot x.page + tot x.key + tot x.second := (rfl)

structure GSuper where
  gen : Int
  root : Int
  shadow : Int
  theory : Int
  next_ : Int
  version : Int
  moving : Bool
  cursor : List UInt8
  symbols : GSignature
  deriving DecidableEq
instance : Enc GSuper := Enc.of (fun x => (x.gen, x.root, x.shadow, x.theory, x.next_, x.version, x.moving, x.cursor, x.symbols)) fun x y h => by cases x; cases y; simp_all
@[push_cast] theorem k_GSuper : Enc.k GSuper = 9 := (rfl)
instance : EncK GSuper 9 := ⟨rfl⟩
@[push_cast] theorem enc_GSuper (x : GSuper) : enc x = [.int .i64 x.gen, .int .i64 x.root, .int .i64 x.shadow, .int .i64 x.theory, .int .i64 x.next_, .int .i64 x.version, .bool x.moving, lst x.cursor, lst x.symbols.symbols] := (rfl)
@[push_cast] theorem eta_GSuper (x : GSuper) : GSuper.mk x.gen x.root x.shadow x.theory x.next_ x.version x.moving x.cursor x.symbols = x := (rfl)
instance : Sz GSuper := ⟨fun x => sm x.gen ∧ sm x.root ∧ sm x.shadow ∧ sm x.theory ∧ sm x.next_ ∧ sm x.version ∧ sm x.moving ∧ sm x.cursor ∧ sm x.symbols, fun x => tot x.gen + tot x.root + tot x.shadow + tot x.theory + tot x.next_ + tot x.version + tot x.moving + tot x.cursor + tot x.symbols, fun x => rg x.gen ∧ rg x.root ∧ rg x.shadow ∧ rg x.theory ∧ rg x.next_ ∧ rg x.version ∧ rg x.moving ∧ rg x.cursor ∧ rg x.symbols⟩
theorem sm_GSuper (x : GSuper) : sm x = (sm x.gen ∧ sm x.root ∧ sm x.shadow ∧ sm x.theory ∧ sm x.next_ ∧ sm x.version ∧ sm x.moving ∧ sm x.cursor ∧ sm x.symbols) := (rfl)
theorem tot_GSuper (x : GSuper) : tot x = tot x.gen + tot x.root + tot x.shadow + tot x.theory + tot x.next_ + tot x.version + tot x.moving + tot x.cursor + tot x.symbols := (rfl)

structure GSuperResult where
  code : Int
  super : GSuper
  deriving DecidableEq
instance : Enc GSuperResult := Enc.of (fun x => (x.code, x.super)) fun x y h => by cases x; cases y; simp_all
@[push_cast] theorem k_GSuperResult : Enc.k GSuperResult = 10 := (rfl)
instance : EncK GSuperResult 10 := ⟨rfl⟩
@[push_cast] theorem enc_GSuperResult (x : GSuperResult) : enc x = [.int .i64 x.code, .int .i64 x.super.gen, .int .i64 x.super.root, .int .i64 x.super.shadow, .int .i64 x.super.theory, .int .i64 x.super.next_, .int .i64 x.super.version, .bool x.super.moving, lst x.super.cursor, lst x.super.symbols.symbols] := (rfl)
@[push_cast] theorem eta_GSuperResult (x : GSuperResult) : GSuperResult.mk x.code x.super = x := (rfl)
instance : Sz GSuperResult := ⟨fun x => sm x.code ∧ sm x.super, fun x => tot x.code + tot x.super, fun x => rg x.code ∧ rg x.super⟩
theorem sm_GSuperResult (x : GSuperResult) : sm x = (sm x.code ∧ sm x.super) := (rfl)
theorem tot_GSuperResult (x : GSuperResult) : tot x = tot x.code + tot x.super := (rfl)

structure GRecord where
  term : List Int
  value : Int
  deriving DecidableEq
instance : Enc GRecord := Enc.of (fun x => (x.term, x.value)) fun x y h => by cases x; cases y; simp_all
@[push_cast] theorem k_GRecord : Enc.k GRecord = 2 := (rfl)
instance : EncK GRecord 2 := ⟨rfl⟩
@[push_cast] theorem enc_GRecord (x : GRecord) : enc x = [lst x.term, .int .i64 x.value] := (rfl)
@[push_cast] theorem eta_GRecord (x : GRecord) : GRecord.mk x.term x.value = x := (rfl)
instance : Sz GRecord := ⟨fun x => sm x.term ∧ sm x.value, fun x => tot x.term + tot x.value, fun x => rg x.term ∧ rg x.value⟩
theorem sm_GRecord (x : GRecord) : sm x = (sm x.term ∧ sm x.value) := (rfl)
theorem tot_GRecord (x : GRecord) : tot x = tot x.term + tot x.value := (rfl)

structure GRecordsResult where
  code : Int
  records : List GRecord
  deriving DecidableEq
instance : Enc GRecordsResult := Enc.of (fun x => (x.code, x.records)) fun x y h => by cases x; cases y; simp_all
@[push_cast] theorem k_GRecordsResult : Enc.k GRecordsResult = 2 := (rfl)
instance : EncK GRecordsResult 2 := ⟨rfl⟩
@[push_cast] theorem enc_GRecordsResult (x : GRecordsResult) : enc x = [.int .i64 x.code, lst x.records] := (rfl)
@[push_cast] theorem eta_GRecordsResult (x : GRecordsResult) : GRecordsResult.mk x.code x.records = x := (rfl)
instance : Sz GRecordsResult := ⟨fun x => sm x.code ∧ sm x.records, fun x => tot x.code + tot x.records, fun x => rg x.code ∧ rg x.records⟩
theorem sm_GRecordsResult (x : GRecordsResult) : sm x = (sm x.code ∧ sm x.records) := (rfl)
theorem tot_GRecordsResult (x : GRecordsResult) : tot x = tot x.code + tot x.records := (rfl)

structure GBaseResult where
  code : Int
  super : GSuper
  theory : GTheory
  next_ : GTheory
  deriving DecidableEq
instance : Enc GBaseResult := Enc.of (fun x => (x.code, x.super, x.theory, x.next_)) fun x y h => by cases x; cases y; simp_all
@[push_cast] theorem k_GBaseResult : Enc.k GBaseResult = 16 := (rfl)
instance : EncK GBaseResult 16 := ⟨rfl⟩
@[push_cast] theorem enc_GBaseResult (x : GBaseResult) : enc x = [.int .i64 x.code, .int .i64 x.super.gen, .int .i64 x.super.root, .int .i64 x.super.shadow, .int .i64 x.super.theory, .int .i64 x.super.next_, .int .i64 x.super.version, .bool x.super.moving, lst x.super.cursor, lst x.super.symbols.symbols, lst x.theory.order, lst x.theory.equations, lst x.theory.rules, lst x.next_.order, lst x.next_.equations, lst x.next_.rules] := (rfl)
@[push_cast] theorem eta_GBaseResult (x : GBaseResult) : GBaseResult.mk x.code x.super x.theory x.next_ = x := (rfl)
instance : Sz GBaseResult := ⟨fun x => sm x.code ∧ sm x.super ∧ sm x.theory ∧ sm x.next_, fun x => tot x.code + tot x.super + tot x.theory + tot x.next_, fun x => rg x.code ∧ rg x.super ∧ rg x.theory ∧ rg x.next_⟩
theorem sm_GBaseResult (x : GBaseResult) : sm x = (sm x.code ∧ sm x.super ∧ sm x.theory ∧ sm x.next_) := (rfl)
theorem tot_GBaseResult (x : GBaseResult) : tot x = tot x.code + tot x.super + tot x.theory + tot x.next_ := (rfl)

structure GOp where
  kind : Int
  term : List Int
  value : Int
  n : Int
  order : List Int
  equations : List GEquation
  deriving DecidableEq
instance : Enc GOp := Enc.of (fun x => (x.kind, x.term, x.value, x.n, x.order, x.equations)) fun x y h => by cases x; cases y; simp_all
@[push_cast] theorem k_GOp : Enc.k GOp = 6 := (rfl)
instance : EncK GOp 6 := ⟨rfl⟩
@[push_cast] theorem enc_GOp (x : GOp) : enc x = [.int .i64 x.kind, lst x.term, .int .i64 x.value, .int .i64 x.n, lst x.order, lst x.equations] := (rfl)
@[push_cast] theorem eta_GOp (x : GOp) : GOp.mk x.kind x.term x.value x.n x.order x.equations = x := (rfl)
instance : Sz GOp := ⟨fun x => sm x.kind ∧ sm x.term ∧ sm x.value ∧ sm x.n ∧ sm x.order ∧ sm x.equations, fun x => tot x.kind + tot x.term + tot x.value + tot x.n + tot x.order + tot x.equations, fun x => rg x.kind ∧ rg x.term ∧ rg x.value ∧ rg x.n ∧ rg x.order ∧ rg x.equations⟩
theorem sm_GOp (x : GOp) : sm x = (sm x.kind ∧ sm x.term ∧ sm x.value ∧ sm x.n ∧ sm x.order ∧ sm x.equations) := (rfl)
theorem tot_GOp (x : GOp) : tot x = tot x.kind + tot x.term + tot x.value + tot x.n + tot x.order + tot x.equations := (rfl)

structure GOpsResult where
  code : Int
  codes : List Int
  disk : GDisk
  deriving DecidableEq
instance : Enc GOpsResult := Enc.of (fun x => (x.code, x.codes, x.disk)) fun x y h => by cases x; cases y; simp_all
@[push_cast] theorem k_GOpsResult : Enc.k GOpsResult = 4 := (rfl)
instance : EncK GOpsResult 4 := ⟨rfl⟩
@[push_cast] theorem enc_GOpsResult (x : GOpsResult) : enc x = [.int .i64 x.code, lst x.codes, lst x.disk.sectors, lst x.disk.pending] := (rfl)
@[push_cast] theorem eta_GOpsResult (x : GOpsResult) : GOpsResult.mk x.code x.codes x.disk = x := (rfl)
instance : Sz GOpsResult := ⟨fun x => sm x.code ∧ sm x.codes ∧ sm x.disk, fun x => tot x.code + tot x.codes + tot x.disk, fun x => rg x.code ∧ rg x.codes ∧ rg x.disk⟩
theorem sm_GOpsResult (x : GOpsResult) : sm x = (sm x.code ∧ sm x.codes ∧ sm x.disk) := (rfl)
theorem tot_GOpsResult (x : GOpsResult) : tot x = tot x.code + tot x.codes + tot x.disk := (rfl)

structure GBook where
  symbols : GSignature
  version : Int
  theory : GTheory
  moving : Bool
  next_ : GTheory
  cursor : List UInt8
  records : List GRecord
  deriving DecidableEq
instance : Enc GBook := Enc.of (fun x => (x.symbols, x.version, x.theory, x.moving, x.next_, x.cursor, x.records)) fun x y h => by cases x; cases y; simp_all
@[push_cast] theorem k_GBook : Enc.k GBook = 11 := (rfl)
instance : EncK GBook 11 := ⟨rfl⟩
@[push_cast] theorem enc_GBook (x : GBook) : enc x = [lst x.symbols.symbols, .int .i64 x.version, lst x.theory.order, lst x.theory.equations, lst x.theory.rules, .bool x.moving, lst x.next_.order, lst x.next_.equations, lst x.next_.rules, lst x.cursor, lst x.records] := (rfl)
@[push_cast] theorem eta_GBook (x : GBook) : GBook.mk x.symbols x.version x.theory x.moving x.next_ x.cursor x.records = x := (rfl)
instance : Sz GBook := ⟨fun x => sm x.symbols ∧ sm x.version ∧ sm x.theory ∧ sm x.moving ∧ sm x.next_ ∧ sm x.cursor ∧ sm x.records, fun x => tot x.symbols + tot x.version + tot x.theory + tot x.moving + tot x.next_ + tot x.cursor + tot x.records, fun x => rg x.symbols ∧ rg x.version ∧ rg x.theory ∧ rg x.moving ∧ rg x.next_ ∧ rg x.cursor ∧ rg x.records⟩
theorem sm_GBook (x : GBook) : sm x = (sm x.symbols ∧ sm x.version ∧ sm x.theory ∧ sm x.moving ∧ sm x.next_ ∧ sm x.cursor ∧ sm x.records) := (rfl)
theorem tot_GBook (x : GBook) : tot x = tot x.symbols + tot x.version + tot x.theory + tot x.moving + tot x.next_ + tot x.cursor + tot x.records := (rfl)

structure GBookResult where
  code : Int
  book : GBook
  deriving DecidableEq
instance : Enc GBookResult := Enc.of (fun x => (x.code, x.book)) fun x y h => by cases x; cases y; simp_all
@[push_cast] theorem k_GBookResult : Enc.k GBookResult = 12 := (rfl)
instance : EncK GBookResult 12 := ⟨rfl⟩
@[push_cast] theorem enc_GBookResult (x : GBookResult) : enc x = [.int .i64 x.code, lst x.book.symbols.symbols, .int .i64 x.book.version, lst x.book.theory.order, lst x.book.theory.equations, lst x.book.theory.rules, .bool x.book.moving, lst x.book.next_.order, lst x.book.next_.equations, lst x.book.next_.rules, lst x.book.cursor, lst x.book.records] := (rfl)
@[push_cast] theorem eta_GBookResult (x : GBookResult) : GBookResult.mk x.code x.book = x := (rfl)
instance : Sz GBookResult := ⟨fun x => sm x.code ∧ sm x.book, fun x => tot x.code + tot x.book, fun x => rg x.code ∧ rg x.book⟩
theorem sm_GBookResult (x : GBookResult) : sm x = (sm x.code ∧ sm x.book) := (rfl)
theorem tot_GBookResult (x : GBookResult) : tot x = tot x.code + tot x.book := (rfl)

structure GWordsResult where
  code : Int
  words : List ByteArray
  deriving DecidableEq
instance : Enc GWordsResult := Enc.of (fun x => (x.code, x.words)) fun x y h => by cases x; cases y; simp_all
@[push_cast] theorem k_GWordsResult : Enc.k GWordsResult = 2 := (rfl)
instance : EncK GWordsResult 2 := ⟨rfl⟩
@[push_cast] theorem enc_GWordsResult (x : GWordsResult) : enc x = [.int .i64 x.code, lst x.words] := (rfl)
@[push_cast] theorem eta_GWordsResult (x : GWordsResult) : GWordsResult.mk x.code x.words = x := (rfl)
instance : Sz GWordsResult := ⟨fun x => sm x.code ∧ sm x.words, fun x => tot x.code + tot x.words, fun x => rg x.code ∧ rg x.words⟩
theorem sm_GWordsResult (x : GWordsResult) : sm x = (sm x.code ∧ sm x.words) := (rfl)
theorem tot_GWordsResult (x : GWordsResult) : tot x = tot x.code + tot x.words := (rfl)

structure GOpResult where
  code : Int
  op : GOp
  deriving DecidableEq
instance : Enc GOpResult := Enc.of (fun x => (x.code, x.op)) fun x y h => by cases x; cases y; simp_all
@[push_cast] theorem k_GOpResult : Enc.k GOpResult = 7 := (rfl)
instance : EncK GOpResult 7 := ⟨rfl⟩
@[push_cast] theorem enc_GOpResult (x : GOpResult) : enc x = [.int .i64 x.code, .int .i64 x.op.kind, lst x.op.term, .int .i64 x.op.value, .int .i64 x.op.n, lst x.op.order, lst x.op.equations] := (rfl)
@[push_cast] theorem eta_GOpResult (x : GOpResult) : GOpResult.mk x.code x.op = x := (rfl)
instance : Sz GOpResult := ⟨fun x => sm x.code ∧ sm x.op, fun x => tot x.code + tot x.op, fun x => rg x.code ∧ rg x.op⟩
theorem sm_GOpResult (x : GOpResult) : sm x = (sm x.code ∧ sm x.op) := (rfl)
theorem tot_GOpResult (x : GOpResult) : tot x = tot x.code + tot x.op := (rfl)

structure GScriptResult where
  code : Int
  disk : GDisk
  said : ByteArray
  deriving DecidableEq
instance : Enc GScriptResult := Enc.of (fun x => (x.code, x.disk, x.said)) fun x y h => by cases x; cases y; simp_all
@[push_cast] theorem k_GScriptResult : Enc.k GScriptResult = 4 := (rfl)
instance : EncK GScriptResult 4 := ⟨rfl⟩
@[push_cast] theorem enc_GScriptResult (x : GScriptResult) : enc x = [.int .i64 x.code, lst x.disk.sectors, lst x.disk.pending, .string x.said] := (rfl)
@[push_cast] theorem eta_GScriptResult (x : GScriptResult) : GScriptResult.mk x.code x.disk x.said = x := (rfl)
instance : Sz GScriptResult := ⟨fun x => sm x.code ∧ sm x.disk ∧ sm x.said, fun x => tot x.code + tot x.disk + tot x.said, fun x => rg x.code ∧ rg x.disk ∧ rg x.said⟩
theorem sm_GScriptResult (x : GScriptResult) : sm x = (sm x.code ∧ sm x.disk ∧ sm x.said) := (rfl)
theorem tot_GScriptResult (x : GScriptResult) : tot x = tot x.code + tot x.disk + tot x.said := (rfl)

structure GL1Src where
  code : List UInt8
  at_ : Int
  deriving DecidableEq
instance : Enc GL1Src := Enc.of (fun x => (x.code, x.at_)) fun x y h => by cases x; cases y; simp_all
@[push_cast] theorem k_GL1Src : Enc.k GL1Src = 2 := (rfl)
instance : EncK GL1Src 2 := ⟨rfl⟩
@[push_cast] theorem enc_GL1Src (x : GL1Src) : enc x = [lst x.code, .int .i64 x.at_] := (rfl)
@[push_cast] theorem eta_GL1Src (x : GL1Src) : GL1Src.mk x.code x.at_ = x := (rfl)
instance : Sz GL1Src := ⟨fun x => sm x.code ∧ sm x.at_, fun x => tot x.code + tot x.at_, fun x => rg x.code ∧ rg x.at_⟩
theorem sm_GL1Src (x : GL1Src) : sm x = (sm x.code ∧ sm x.at_) := (rfl)
theorem tot_GL1Src (x : GL1Src) : tot x = tot x.code + tot x.at_ := (rfl)

structure GL6Pair where
  a : List Int
  b : List Int
  deriving DecidableEq
instance : Enc GL6Pair := Enc.of (fun x => (x.a, x.b)) fun x y h => by cases x; cases y; simp_all
@[push_cast] theorem k_GL6Pair : Enc.k GL6Pair = 2 := (rfl)
instance : EncK GL6Pair 2 := ⟨rfl⟩
@[push_cast] theorem enc_GL6Pair (x : GL6Pair) : enc x = [lst x.a, lst x.b] := (rfl)
@[push_cast] theorem eta_GL6Pair (x : GL6Pair) : GL6Pair.mk x.a x.b = x := (rfl)
instance : Sz GL6Pair := ⟨fun x => sm x.a ∧ sm x.b, fun x => tot x.a + tot x.b, fun x => rg x.a ∧ rg x.b⟩
theorem sm_GL6Pair (x : GL6Pair) : sm x = (sm x.a ∧ sm x.b) := (rfl)
theorem tot_GL6Pair (x : GL6Pair) : tot x = tot x.a + tot x.b := (rfl)

structure GL17Walk where
  pages : List Int
  rows : List GRow
  deep : Int
  deriving DecidableEq
instance : Enc GL17Walk := Enc.of (fun x => (x.pages, x.rows, x.deep)) fun x y h => by cases x; cases y; simp_all
@[push_cast] theorem k_GL17Walk : Enc.k GL17Walk = 3 := (rfl)
instance : EncK GL17Walk 3 := ⟨rfl⟩
@[push_cast] theorem enc_GL17Walk (x : GL17Walk) : enc x = [lst x.pages, lst x.rows, .int .i64 x.deep] := (rfl)
@[push_cast] theorem eta_GL17Walk (x : GL17Walk) : GL17Walk.mk x.pages x.rows x.deep = x := (rfl)
instance : Sz GL17Walk := ⟨fun x => sm x.pages ∧ sm x.rows ∧ sm x.deep, fun x => tot x.pages + tot x.rows + tot x.deep, fun x => rg x.pages ∧ rg x.rows ∧ rg x.deep⟩
theorem sm_GL17Walk (x : GL17Walk) : sm x = (sm x.pages ∧ sm x.rows ∧ sm x.deep) := (rfl)
theorem tot_GL17Walk (x : GL17Walk) : tot x = tot x.pages + tot x.rows + tot x.deep := (rfl)

structure GL17Two where
  one : Int
  mid : List UInt8
  two : Int
  deriving DecidableEq
instance : Enc GL17Two := Enc.of (fun x => (x.one, x.mid, x.two)) fun x y h => by cases x; cases y; simp_all
@[push_cast] theorem k_GL17Two : Enc.k GL17Two = 3 := (rfl)
instance : EncK GL17Two 3 := ⟨rfl⟩
@[push_cast] theorem enc_GL17Two (x : GL17Two) : enc x = [.int .i64 x.one, lst x.mid, .int .i64 x.two] := (rfl)
@[push_cast] theorem eta_GL17Two (x : GL17Two) : GL17Two.mk x.one x.mid x.two = x := (rfl)
instance : Sz GL17Two := ⟨fun x => sm x.one ∧ sm x.mid ∧ sm x.two, fun x => tot x.one + tot x.mid + tot x.two, fun x => rg x.one ∧ rg x.mid ∧ rg x.two⟩
theorem sm_GL17Two (x : GL17Two) : sm x = (sm x.one ∧ sm x.mid ∧ sm x.two) := (rfl)
theorem tot_GL17Two (x : GL17Two) : tot x = tot x.one + tot x.mid + tot x.two := (rfl)

structure GL18State where
  super : GSuper
  kept : List Int
  theory : GTheory
  next_ : GTheory
  deriving DecidableEq
instance : Enc GL18State := Enc.of (fun x => (x.super, x.kept, x.theory, x.next_)) fun x y h => by cases x; cases y; simp_all
@[push_cast] theorem k_GL18State : Enc.k GL18State = 16 := (rfl)
instance : EncK GL18State 16 := ⟨rfl⟩
@[push_cast] theorem enc_GL18State (x : GL18State) : enc x = [.int .i64 x.super.gen, .int .i64 x.super.root, .int .i64 x.super.shadow, .int .i64 x.super.theory, .int .i64 x.super.next_, .int .i64 x.super.version, .bool x.super.moving, lst x.super.cursor, lst x.super.symbols.symbols, lst x.kept, lst x.theory.order, lst x.theory.equations, lst x.theory.rules, lst x.next_.order, lst x.next_.equations, lst x.next_.rules] := (rfl)
@[push_cast] theorem eta_GL18State (x : GL18State) : GL18State.mk x.super x.kept x.theory x.next_ = x := (rfl)
instance : Sz GL18State := ⟨fun x => sm x.super ∧ sm x.kept ∧ sm x.theory ∧ sm x.next_, fun x => tot x.super + tot x.kept + tot x.theory + tot x.next_, fun x => rg x.super ∧ rg x.kept ∧ rg x.theory ∧ rg x.next_⟩
theorem sm_GL18State (x : GL18State) : sm x = (sm x.super ∧ sm x.kept ∧ sm x.theory ∧ sm x.next_) := (rfl)
theorem tot_GL18State (x : GL18State) : tot x = tot x.super + tot x.kept + tot x.theory + tot x.next_ := (rfl)

structure GL19Change where
  drop : Bool
  value : Int
  deriving DecidableEq
instance : Enc GL19Change := Enc.of (fun x => (x.drop, x.value)) fun x y h => by cases x; cases y; simp_all
@[push_cast] theorem k_GL19Change : Enc.k GL19Change = 2 := (rfl)
instance : EncK GL19Change 2 := ⟨rfl⟩
@[push_cast] theorem enc_GL19Change (x : GL19Change) : enc x = [.bool x.drop, .int .i64 x.value] := (rfl)
@[push_cast] theorem eta_GL19Change (x : GL19Change) : GL19Change.mk x.drop x.value = x := (rfl)
instance : Sz GL19Change := ⟨fun x => sm x.drop ∧ sm x.value, fun x => tot x.drop + tot x.value, fun x => rg x.drop ∧ rg x.value⟩
theorem sm_GL19Change (x : GL19Change) : sm x = (sm x.drop ∧ sm x.value) := (rfl)
theorem tot_GL19Change (x : GL19Change) : tot x = tot x.drop + tot x.value := (rfl)
end Go.SC

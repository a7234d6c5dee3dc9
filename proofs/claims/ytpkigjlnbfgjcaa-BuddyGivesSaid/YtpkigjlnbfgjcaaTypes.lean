/- The types and functions of the translation, as instances; no condition. -/
import Derived.Test.YtpkigjlnbfgjcaaProg
import Derived.Test.YtpkigjlnbfgjcaaBaseA
import Derived.KernelRfl
namespace Go.Proofs.Ytpkigjlnbfgjcaa
open Go.TM Go.Proofs
noncomputable abbrev PG := Try.prog
theorem mixed : PG.follows .mixedOrders = true := by kernel_rfl
instance : TScal PG 1 := ⟨Try.isAgg1⟩
instance : TSize PG 1 1 := ⟨Try.sizeOf1⟩
instance : TZero PG 1 [.nilFunc] := ⟨fun w => ⟨_, Try.zeroValue1 w, rfl⟩⟩
instance : TScal PG 2 := ⟨Try.isAgg2⟩
instance : TSize PG 2 1 := ⟨Try.sizeOf2⟩
instance : TZero PG 2 [.int .i64 0] := ⟨fun w => ⟨_, Try.zeroValue2 w, rfl⟩⟩
instance : TInt PG 2 .i64 := ⟨Try.underlying2⟩
instance : TScal PG 3 := ⟨Try.isAgg3⟩
instance : TSize PG 3 1 := ⟨Try.sizeOf3⟩
instance : TZero PG 3 [.int .i64 0] := ⟨fun w => ⟨_, Try.zeroValue3 w, rfl⟩⟩
instance : TInt PG 3 .i64 := ⟨Try.underlying3⟩
instance : TScal PG 4 := ⟨Try.isAgg4⟩
instance : TSize PG 4 1 := ⟨Try.sizeOf4⟩
instance : TZero PG 4 [.bool false] := ⟨fun w => ⟨_, Try.zeroValue4 w, rfl⟩⟩
instance : TScal PG 5 := ⟨Try.isAgg5⟩
instance : TSize PG 5 1 := ⟨Try.sizeOf5⟩
instance : TZero PG 5 [.int .u8 0] := ⟨fun w => ⟨_, Try.zeroValue5 w, rfl⟩⟩
instance : TInt PG 5 .u8 := ⟨Try.underlying5⟩
instance : TScal PG 6 := ⟨Try.isAgg6⟩
instance : TSize PG 6 1 := ⟨Try.sizeOf6⟩
instance : TZero PG 6 [.int .u8 0] := ⟨fun w => ⟨_, Try.zeroValue6 w, rfl⟩⟩
instance : TInt PG 6 .u8 := ⟨Try.underlying6⟩
instance : TAgg PG 7 4 := ⟨Try.isAgg7, Try.sizeOf7⟩
instance : TSize PG 7 4 := ⟨Try.sizeOf7⟩
instance : TZero PG 7 [.int .i64 0, .int .i64 0, .bool false, .int .u8 0] := ⟨fun w => ⟨_, Try.zeroValue7 w, rfl⟩⟩
instance : TBuild PG 7 [(0, 1), (1, 1), (2, 1), (3, 1)] [.int .i64 0, .int .i64 0, .bool false, .int .u8 0] := TBuild.of Try.underlying7 TZero.run (.cons ⟨rfl, Try.sizeOf2⟩ (.cons ⟨rfl, Try.sizeOf3⟩ (.cons ⟨rfl, Try.sizeOf4⟩ (.cons ⟨rfl, Try.sizeOf6⟩ (.nil)))))
instance : TPart PG 7 0 0 := TPart.of Try.underlying7 rfl rfl Try.isAgg2
instance : TPart PG 7 1 1 := TPart.of Try.underlying7 rfl rfl Try.isAgg3
instance : TPart PG 7 2 2 := TPart.of Try.underlying7 rfl rfl Try.isAgg4
instance : TPart PG 7 3 3 := TPart.of Try.underlying7 rfl rfl Try.isAgg6
instance : TField PG 7 0 0 := TField.of Try.underlying7 rfl rfl (n := 1) Try.sizeOf2 (by decide)
instance : TField PG 7 1 1 := TField.of Try.underlying7 rfl rfl (n := 1) Try.sizeOf3 (by decide)
instance : TField PG 7 2 2 := TField.of Try.underlying7 rfl rfl (n := 1) Try.sizeOf4 (by decide)
instance : TField PG 7 3 3 := TField.of Try.underlying7 rfl rfl (n := 1) Try.sizeOf6 (by decide)
instance : TAgg PG 8 4 := ⟨Try.isAgg8, Try.sizeOf8⟩
instance : TSize PG 8 4 := ⟨Try.sizeOf8⟩
instance : TZero PG 8 [.int .i64 0, .int .i64 0, .bool false, .int .u8 0] := ⟨fun w => ⟨_, Try.zeroValue8 w, rfl⟩⟩
instance : TBuild PG 8 [(0, 1), (1, 1), (2, 1), (3, 1)] [.int .i64 0, .int .i64 0, .bool false, .int .u8 0] := TBuild.of Try.underlying8 TZero.run (.cons ⟨rfl, Try.sizeOf2⟩ (.cons ⟨rfl, Try.sizeOf3⟩ (.cons ⟨rfl, Try.sizeOf4⟩ (.cons ⟨rfl, Try.sizeOf6⟩ (.nil)))))
instance : TPart PG 8 0 0 := TPart.of Try.underlying8 rfl rfl Try.isAgg2
instance : TPart PG 8 1 1 := TPart.of Try.underlying8 rfl rfl Try.isAgg3
instance : TPart PG 8 2 2 := TPart.of Try.underlying8 rfl rfl Try.isAgg4
instance : TPart PG 8 3 3 := TPart.of Try.underlying8 rfl rfl Try.isAgg6
instance : TField PG 8 0 0 := TField.of Try.underlying8 rfl rfl (n := 1) Try.sizeOf2 (by decide)
instance : TField PG 8 1 1 := TField.of Try.underlying8 rfl rfl (n := 1) Try.sizeOf3 (by decide)
instance : TField PG 8 2 2 := TField.of Try.underlying8 rfl rfl (n := 1) Try.sizeOf4 (by decide)
instance : TField PG 8 3 3 := TField.of Try.underlying8 rfl rfl (n := 1) Try.sizeOf6 (by decide)
instance : TScal PG 9 := ⟨Try.isAgg9⟩
instance : TSize PG 9 1 := ⟨Try.sizeOf9⟩
instance : TZero PG 9 [.string ByteArray.empty] := ⟨fun w => ⟨_, Try.zeroValue9 w, rfl⟩⟩
instance : TStr PG 9 := ⟨Try.underlying9⟩
instance : TScal PG 10 := ⟨Try.isAgg10⟩
instance : TSize PG 10 1 := ⟨Try.sizeOf10⟩
instance : TZero PG 10 [.string ByteArray.empty] := ⟨fun w => ⟨_, Try.zeroValue10 w, rfl⟩⟩
instance : TStr PG 10 := ⟨Try.underlying10⟩
instance : TScal PG 11 := ⟨Try.isAgg11⟩
instance : TSize PG 11 1 := ⟨Try.sizeOf11⟩
instance : TZero PG 11 [.string ByteArray.empty] := ⟨fun w => ⟨_, Try.zeroValue11 w, rfl⟩⟩
instance : TStr PG 11 := ⟨Try.underlying11⟩
instance : TScal PG 12 := ⟨Try.isAgg12⟩
instance : TSize PG 12 1 := ⟨Try.sizeOf12⟩
instance : TZero PG 12 [.int .u64 0] := ⟨fun w => ⟨_, Try.zeroValue12 w, rfl⟩⟩
instance : TInt PG 12 .u64 := ⟨Try.underlying12⟩
instance : TAgg PG 13 2 := ⟨Try.isAgg13, Try.sizeOf13⟩
instance : TSize PG 13 2 := ⟨Try.sizeOf13⟩
instance : TZero PG 13 [.string ByteArray.empty, .int .u64 0] := ⟨fun w => ⟨_, Try.zeroValue13 w, rfl⟩⟩
instance : TBuild PG 13 [(0, 1), (1, 1)] [.string ByteArray.empty, .int .u64 0] := TBuild.of Try.underlying13 TZero.run (.cons ⟨rfl, Try.sizeOf9⟩ (.cons ⟨rfl, Try.sizeOf12⟩ (.nil)))
instance : TPart PG 13 0 0 := TPart.of Try.underlying13 rfl rfl Try.isAgg9
instance : TPart PG 13 1 1 := TPart.of Try.underlying13 rfl rfl Try.isAgg12
instance : TField PG 13 0 0 := TField.of Try.underlying13 rfl rfl (n := 1) Try.sizeOf9 (by decide)
instance : TField PG 13 1 1 := TField.of Try.underlying13 rfl rfl (n := 1) Try.sizeOf12 (by decide)
instance : TAgg PG 14 2 := ⟨Try.isAgg14, Try.sizeOf14⟩
instance : TSize PG 14 2 := ⟨Try.sizeOf14⟩
instance : TZero PG 14 [.string ByteArray.empty, .int .u64 0] := ⟨fun w => ⟨_, Try.zeroValue14 w, rfl⟩⟩
instance : TBuild PG 14 [(0, 1), (1, 1)] [.string ByteArray.empty, .int .u64 0] := TBuild.of Try.underlying14 TZero.run (.cons ⟨rfl, Try.sizeOf9⟩ (.cons ⟨rfl, Try.sizeOf12⟩ (.nil)))
instance : TPart PG 14 0 0 := TPart.of Try.underlying14 rfl rfl Try.isAgg9
instance : TPart PG 14 1 1 := TPart.of Try.underlying14 rfl rfl Try.isAgg12
instance : TField PG 14 0 0 := TField.of Try.underlying14 rfl rfl (n := 1) Try.sizeOf9 (by decide)
instance : TField PG 14 1 1 := TField.of Try.underlying14 rfl rfl (n := 1) Try.sizeOf12 (by decide)
instance : TScal PG 15 := ⟨Try.isAgg15⟩
instance : TSize PG 15 1 := ⟨Try.sizeOf15⟩
instance : TZero PG 15 [.pointer none] := ⟨fun w => ⟨_, Try.zeroValue15 w, rfl⟩⟩
instance : TScal PG 16 := ⟨Try.isAgg16⟩
instance : TSize PG 16 1 := ⟨Try.sizeOf16⟩
instance : TZero PG 16 [.pointer none] := ⟨fun w => ⟨_, Try.zeroValue16 w, rfl⟩⟩
instance : TScal PG 17 := ⟨Try.isAgg17⟩
instance : TSize PG 17 1 := ⟨Try.sizeOf17⟩
instance : TZero PG 17 [.pointer none] := ⟨fun w => ⟨_, Try.zeroValue17 w, rfl⟩⟩
instance : TAgg PG 18 1 := ⟨Try.isAgg18, Try.sizeOf18⟩
instance : TSize PG 18 1 := ⟨Try.sizeOf18⟩
instance : TZero PG 18 [.pointer none] := ⟨fun w => ⟨_, Try.zeroValue18 w, rfl⟩⟩
instance : TBuild PG 18 [(0, 1)] [.pointer none] := TBuild.of Try.underlying18 TZero.run (.cons ⟨rfl, Try.sizeOf17⟩ (.nil))
instance : TPart PG 18 0 0 := TPart.of Try.underlying18 rfl rfl Try.isAgg17
instance : TField PG 18 0 0 := TField.of Try.underlying18 rfl rfl (n := 1) Try.sizeOf17 (by decide)
instance : TAgg PG 19 1 := ⟨Try.isAgg19, Try.sizeOf19⟩
instance : TSize PG 19 1 := ⟨Try.sizeOf19⟩
instance : TZero PG 19 [.pointer none] := ⟨fun w => ⟨_, Try.zeroValue19 w, rfl⟩⟩
instance : TBuild PG 19 [(0, 1)] [.pointer none] := TBuild.of Try.underlying19 TZero.run (.cons ⟨rfl, Try.sizeOf17⟩ (.nil))
instance : TPart PG 19 0 0 := TPart.of Try.underlying19 rfl rfl Try.isAgg17
instance : TField PG 19 0 0 := TField.of Try.underlying19 rfl rfl (n := 1) Try.sizeOf17 (by decide)
instance : TScal PG 21 := ⟨Try.isAgg21⟩
instance : TSize PG 21 1 := ⟨Try.sizeOf21⟩
instance : TZero PG 21 [.int .i32 0] := ⟨fun w => ⟨_, Try.zeroValue21 w, rfl⟩⟩
instance : TInt PG 21 .i32 := ⟨Try.underlying21⟩
instance : TScal PG 22 := ⟨Try.isAgg22⟩
instance : TSize PG 22 1 := ⟨Try.sizeOf22⟩
instance : TZero PG 22 [.slice none 0 0] := ⟨fun w => ⟨_, Try.zeroValue22 w, rfl⟩⟩
instance : TSlice PG 22 3 := ⟨Try.underlying22⟩
instance : TScal PG 23 := ⟨Try.isAgg23⟩
instance : TSize PG 23 1 := ⟨Try.sizeOf23⟩
instance : TZero PG 23 [.slice none 0 0] := ⟨fun w => ⟨_, Try.zeroValue23 w, rfl⟩⟩
instance : TSlice PG 23 61 := ⟨Try.underlying23⟩
instance : TScal PG 24 := ⟨Try.isAgg24⟩
instance : TSize PG 24 1 := ⟨Try.sizeOf24⟩
instance : TZero PG 24 [.nilFunc] := ⟨fun w => ⟨_, Try.zeroValue24 w, rfl⟩⟩
instance : TScal PG 25 := ⟨Try.isAgg25⟩
instance : TSize PG 25 1 := ⟨Try.sizeOf25⟩
instance : TZero PG 25 [.nilFunc] := ⟨fun w => ⟨_, Try.zeroValue25 w, rfl⟩⟩
instance : TScal PG 26 := ⟨Try.isAgg26⟩
instance : TSize PG 26 1 := ⟨Try.sizeOf26⟩
instance : TZero PG 26 [.slice none 0 0] := ⟨fun w => ⟨_, Try.zeroValue26 w, rfl⟩⟩
instance : TSlice PG 26 22 := ⟨Try.underlying26⟩
instance : TAgg PG 27 2 := ⟨Try.isAgg27, Try.sizeOf27⟩
instance : TSize PG 27 2 := ⟨Try.sizeOf27⟩
instance : TZero PG 27 [.int .i64 0, .int .i64 0] := ⟨fun w => ⟨_, Try.zeroValue27 w, rfl⟩⟩
instance : TBuild PG 27 [(0, 1), (1, 1)] [.int .i64 0, .int .i64 0] := TBuild.of Try.underlying27 TZero.run (.cons ⟨rfl, Try.sizeOf3⟩ (.cons ⟨rfl, Try.sizeOf3⟩ (.nil)))
instance : TPart PG 27 0 0 := TPart.of Try.underlying27 rfl rfl Try.isAgg3
instance : TPart PG 27 1 1 := TPart.of Try.underlying27 rfl rfl Try.isAgg3
instance : TField PG 27 0 0 := TField.of Try.underlying27 rfl rfl (n := 1) Try.sizeOf3 (by decide)
instance : TField PG 27 1 1 := TField.of Try.underlying27 rfl rfl (n := 1) Try.sizeOf3 (by decide)
instance : TAgg PG 28 2 := ⟨Try.isAgg28, Try.sizeOf28⟩
instance : TSize PG 28 2 := ⟨Try.sizeOf28⟩
instance : TZero PG 28 [.int .i64 0, .int .i64 0] := ⟨fun w => ⟨_, Try.zeroValue28 w, rfl⟩⟩
instance : TBuild PG 28 [(0, 1), (1, 1)] [.int .i64 0, .int .i64 0] := TBuild.of Try.underlying28 TZero.run (.cons ⟨rfl, Try.sizeOf3⟩ (.cons ⟨rfl, Try.sizeOf3⟩ (.nil)))
instance : TPart PG 28 0 0 := TPart.of Try.underlying28 rfl rfl Try.isAgg3
instance : TPart PG 28 1 1 := TPart.of Try.underlying28 rfl rfl Try.isAgg3
instance : TField PG 28 0 0 := TField.of Try.underlying28 rfl rfl (n := 1) Try.sizeOf3 (by decide)
instance : TField PG 28 1 1 := TField.of Try.underlying28 rfl rfl (n := 1) Try.sizeOf3 (by decide)
instance : TScal PG 30 := ⟨Try.isAgg30⟩
instance : TSize PG 30 1 := ⟨Try.sizeOf30⟩
instance : TZero PG 30 [.nilFunc] := ⟨fun w => ⟨_, Try.zeroValue30 w, rfl⟩⟩
instance : TScal PG 31 := ⟨Try.isAgg31⟩
instance : TSize PG 31 1 := ⟨Try.sizeOf31⟩
instance : TZero PG 31 [.nilFunc] := ⟨fun w => ⟨_, Try.zeroValue31 w, rfl⟩⟩
instance : TScal PG 32 := ⟨Try.isAgg32⟩
instance : TSize PG 32 1 := ⟨Try.sizeOf32⟩
instance : TZero PG 32 [.nilFunc] := ⟨fun w => ⟨_, Try.zeroValue32 w, rfl⟩⟩
instance : TScal PG 33 := ⟨Try.isAgg33⟩
instance : TSize PG 33 1 := ⟨Try.sizeOf33⟩
instance : TZero PG 33 [.nilFunc] := ⟨fun w => ⟨_, Try.zeroValue33 w, rfl⟩⟩
instance : TScal PG 34 := ⟨Try.isAgg34⟩
instance : TSize PG 34 1 := ⟨Try.sizeOf34⟩
instance : TZero PG 34 [.nilFunc] := ⟨fun w => ⟨_, Try.zeroValue34 w, rfl⟩⟩
instance : TScal PG 35 := ⟨Try.isAgg35⟩
instance : TSize PG 35 1 := ⟨Try.sizeOf35⟩
instance : TZero PG 35 [.nilFunc] := ⟨fun w => ⟨_, Try.zeroValue35 w, rfl⟩⟩
instance : TScal PG 36 := ⟨Try.isAgg36⟩
instance : TSize PG 36 1 := ⟨Try.sizeOf36⟩
instance : TZero PG 36 [.nilFunc] := ⟨fun w => ⟨_, Try.zeroValue36 w, rfl⟩⟩
instance : TScal PG 37 := ⟨Try.isAgg37⟩
instance : TSize PG 37 1 := ⟨Try.sizeOf37⟩
instance : TZero PG 37 [.nilFunc] := ⟨fun w => ⟨_, Try.zeroValue37 w, rfl⟩⟩
instance : TScal PG 38 := ⟨Try.isAgg38⟩
instance : TSize PG 38 1 := ⟨Try.sizeOf38⟩
instance : TZero PG 38 [.nilFunc] := ⟨fun w => ⟨_, Try.zeroValue38 w, rfl⟩⟩
instance : TScal PG 39 := ⟨Try.isAgg39⟩
instance : TSize PG 39 1 := ⟨Try.sizeOf39⟩
instance : TZero PG 39 [.slice none 0 0] := ⟨fun w => ⟨_, Try.zeroValue39 w, rfl⟩⟩
instance : TSlice PG 39 51 := ⟨Try.underlying39⟩
instance : TAgg PG 40 3 := ⟨Try.isAgg40, Try.sizeOf40⟩
instance : TSize PG 40 3 := ⟨Try.sizeOf40⟩
instance : TZero PG 40 [.int .i64 0, .slice none 0 0, .slice none 0 0] := ⟨fun w => ⟨_, Try.zeroValue40 w, rfl⟩⟩
instance : TBuild PG 40 [(0, 1), (1, 1), (2, 1)] [.int .i64 0, .slice none 0 0, .slice none 0 0] := TBuild.of Try.underlying40 TZero.run (.cons ⟨rfl, Try.sizeOf3⟩ (.cons ⟨rfl, Try.sizeOf39⟩ (.cons ⟨rfl, Try.sizeOf39⟩ (.nil))))
instance : TPart PG 40 0 0 := TPart.of Try.underlying40 rfl rfl Try.isAgg3
instance : TPart PG 40 1 1 := TPart.of Try.underlying40 rfl rfl Try.isAgg39
instance : TPart PG 40 2 2 := TPart.of Try.underlying40 rfl rfl Try.isAgg39
instance : TField PG 40 0 0 := TField.of Try.underlying40 rfl rfl (n := 1) Try.sizeOf3 (by decide)
instance : TField PG 40 1 1 := TField.of Try.underlying40 rfl rfl (n := 1) Try.sizeOf39 (by decide)
instance : TField PG 40 2 2 := TField.of Try.underlying40 rfl rfl (n := 1) Try.sizeOf39 (by decide)
instance : TAgg PG 41 3 := ⟨Try.isAgg41, Try.sizeOf41⟩
instance : TSize PG 41 3 := ⟨Try.sizeOf41⟩
instance : TZero PG 41 [.int .i64 0, .slice none 0 0, .slice none 0 0] := ⟨fun w => ⟨_, Try.zeroValue41 w, rfl⟩⟩
instance : TBuild PG 41 [(0, 1), (1, 1), (2, 1)] [.int .i64 0, .slice none 0 0, .slice none 0 0] := TBuild.of Try.underlying41 TZero.run (.cons ⟨rfl, Try.sizeOf3⟩ (.cons ⟨rfl, Try.sizeOf39⟩ (.cons ⟨rfl, Try.sizeOf39⟩ (.nil))))
instance : TPart PG 41 0 0 := TPart.of Try.underlying41 rfl rfl Try.isAgg3
instance : TPart PG 41 1 1 := TPart.of Try.underlying41 rfl rfl Try.isAgg39
instance : TPart PG 41 2 2 := TPart.of Try.underlying41 rfl rfl Try.isAgg39
instance : TField PG 41 0 0 := TField.of Try.underlying41 rfl rfl (n := 1) Try.sizeOf3 (by decide)
instance : TField PG 41 1 1 := TField.of Try.underlying41 rfl rfl (n := 1) Try.sizeOf39 (by decide)
instance : TField PG 41 2 2 := TField.of Try.underlying41 rfl rfl (n := 1) Try.sizeOf39 (by decide)
instance : TScal PG 42 := ⟨Try.isAgg42⟩
instance : TSize PG 42 1 := ⟨Try.sizeOf42⟩
instance : TZero PG 42 [.nilFunc] := ⟨fun w => ⟨_, Try.zeroValue42 w, rfl⟩⟩
instance : TScal PG 43 := ⟨Try.isAgg43⟩
instance : TSize PG 43 1 := ⟨Try.sizeOf43⟩
instance : TZero PG 43 [.nilFunc] := ⟨fun w => ⟨_, Try.zeroValue43 w, rfl⟩⟩
instance : TScal PG 44 := ⟨Try.isAgg44⟩
instance : TSize PG 44 1 := ⟨Try.sizeOf44⟩
instance : TZero PG 44 [.nilFunc] := ⟨fun w => ⟨_, Try.zeroValue44 w, rfl⟩⟩
instance : TScal PG 46 := ⟨Try.isAgg46⟩
instance : TSize PG 46 1 := ⟨Try.sizeOf46⟩
instance : TZero PG 46 [.nilFunc] := ⟨fun w => ⟨_, Try.zeroValue46 w, rfl⟩⟩
instance : TScal PG 48 := ⟨Try.isAgg48⟩
instance : TSize PG 48 1 := ⟨Try.sizeOf48⟩
instance : TZero PG 48 [.nilFunc] := ⟨fun w => ⟨_, Try.zeroValue48 w, rfl⟩⟩
instance : TScal PG 49 := ⟨Try.isAgg49⟩
instance : TSize PG 49 1 := ⟨Try.sizeOf49⟩
instance : TZero PG 49 [.nilFunc] := ⟨fun w => ⟨_, Try.zeroValue49 w, rfl⟩⟩
instance : TAgg PG 50 2 := ⟨Try.isAgg50, Try.sizeOf50⟩
instance : TSize PG 50 2 := ⟨Try.sizeOf50⟩
instance : TZero PG 50 [.int .i64 0, .int .i64 0] := ⟨fun w => ⟨_, Try.zeroValue50 w, rfl⟩⟩
instance : TBuild PG 50 [(0, 1), (1, 1)] [.int .i64 0, .int .i64 0] := TBuild.of Try.underlying50 TZero.run (.cons ⟨rfl, Try.sizeOf3⟩ (.cons ⟨rfl, Try.sizeOf3⟩ (.nil)))
instance : TPart PG 50 0 0 := TPart.of Try.underlying50 rfl rfl Try.isAgg3
instance : TPart PG 50 1 1 := TPart.of Try.underlying50 rfl rfl Try.isAgg3
instance : TField PG 50 0 0 := TField.of Try.underlying50 rfl rfl (n := 1) Try.sizeOf3 (by decide)
instance : TField PG 50 1 1 := TField.of Try.underlying50 rfl rfl (n := 1) Try.sizeOf3 (by decide)
instance : TAgg PG 51 2 := ⟨Try.isAgg51, Try.sizeOf51⟩
instance : TSize PG 51 2 := ⟨Try.sizeOf51⟩
instance : TZero PG 51 [.int .i64 0, .int .i64 0] := ⟨fun w => ⟨_, Try.zeroValue51 w, rfl⟩⟩
instance : TBuild PG 51 [(0, 1), (1, 1)] [.int .i64 0, .int .i64 0] := TBuild.of Try.underlying51 TZero.run (.cons ⟨rfl, Try.sizeOf3⟩ (.cons ⟨rfl, Try.sizeOf3⟩ (.nil)))
instance : TPart PG 51 0 0 := TPart.of Try.underlying51 rfl rfl Try.isAgg3
instance : TPart PG 51 1 1 := TPart.of Try.underlying51 rfl rfl Try.isAgg3
instance : TField PG 51 0 0 := TField.of Try.underlying51 rfl rfl (n := 1) Try.sizeOf3 (by decide)
instance : TField PG 51 1 1 := TField.of Try.underlying51 rfl rfl (n := 1) Try.sizeOf3 (by decide)
instance : TScal PG 53 := ⟨Try.isAgg53⟩
instance : TSize PG 53 1 := ⟨Try.sizeOf53⟩
instance : TZero PG 53 [.nilFunc] := ⟨fun w => ⟨_, Try.zeroValue53 w, rfl⟩⟩
instance : TScal PG 54 := ⟨Try.isAgg54⟩
instance : TSize PG 54 1 := ⟨Try.sizeOf54⟩
instance : TZero PG 54 [.nilFunc] := ⟨fun w => ⟨_, Try.zeroValue54 w, rfl⟩⟩
instance : TScal PG 55 := ⟨Try.isAgg55⟩
instance : TSize PG 55 1 := ⟨Try.sizeOf55⟩
instance : TZero PG 55 [.nilFunc] := ⟨fun w => ⟨_, Try.zeroValue55 w, rfl⟩⟩
instance : TScal PG 56 := ⟨Try.isAgg56⟩
instance : TSize PG 56 1 := ⟨Try.sizeOf56⟩
instance : TZero PG 56 [.nilFunc] := ⟨fun w => ⟨_, Try.zeroValue56 w, rfl⟩⟩
instance : TScal PG 57 := ⟨Try.isAgg57⟩
instance : TSize PG 57 1 := ⟨Try.sizeOf57⟩
instance : TZero PG 57 [.nilFunc] := ⟨fun w => ⟨_, Try.zeroValue57 w, rfl⟩⟩
instance : TScal PG 58 := ⟨Try.isAgg58⟩
instance : TSize PG 58 1 := ⟨Try.sizeOf58⟩
instance : TZero PG 58 [.nilFunc] := ⟨fun w => ⟨_, Try.zeroValue58 w, rfl⟩⟩
instance : TAgg PG 59 4 := ⟨Try.isAgg59, Try.sizeOf59⟩
instance : TSize PG 59 4 := ⟨Try.sizeOf59⟩
instance : TZero PG 59 [.int .i64 0, .int .i64 0, .int .i64 0, .int .i64 0] := ⟨fun w => ⟨_, Try.zeroValue59 w, rfl⟩⟩
instance : TBuild PG 59 [(0, 1), (1, 1), (2, 1), (3, 1)] [.int .i64 0, .int .i64 0, .int .i64 0, .int .i64 0] := TBuild.of Try.underlying59 TZero.run (.cons ⟨rfl, Try.sizeOf3⟩ (.cons ⟨rfl, Try.sizeOf3⟩ (.cons ⟨rfl, Try.sizeOf3⟩ (.cons ⟨rfl, Try.sizeOf3⟩ (.nil)))))
instance : TPart PG 59 0 0 := TPart.of Try.underlying59 rfl rfl Try.isAgg3
instance : TPart PG 59 1 1 := TPart.of Try.underlying59 rfl rfl Try.isAgg3
instance : TPart PG 59 2 2 := TPart.of Try.underlying59 rfl rfl Try.isAgg3
instance : TPart PG 59 3 3 := TPart.of Try.underlying59 rfl rfl Try.isAgg3
instance : TField PG 59 0 0 := TField.of Try.underlying59 rfl rfl (n := 1) Try.sizeOf3 (by decide)
instance : TField PG 59 1 1 := TField.of Try.underlying59 rfl rfl (n := 1) Try.sizeOf3 (by decide)
instance : TField PG 59 2 2 := TField.of Try.underlying59 rfl rfl (n := 1) Try.sizeOf3 (by decide)
instance : TField PG 59 3 3 := TField.of Try.underlying59 rfl rfl (n := 1) Try.sizeOf3 (by decide)
instance : TAgg PG 60 4 := ⟨Try.isAgg60, Try.sizeOf60⟩
instance : TSize PG 60 4 := ⟨Try.sizeOf60⟩
instance : TZero PG 60 [.int .i64 0, .int .i64 0, .int .i64 0, .int .i64 0] := ⟨fun w => ⟨_, Try.zeroValue60 w, rfl⟩⟩
instance : TBuild PG 60 [(0, 1), (1, 1), (2, 1), (3, 1)] [.int .i64 0, .int .i64 0, .int .i64 0, .int .i64 0] := TBuild.of Try.underlying60 TZero.run (.cons ⟨rfl, Try.sizeOf3⟩ (.cons ⟨rfl, Try.sizeOf3⟩ (.cons ⟨rfl, Try.sizeOf3⟩ (.cons ⟨rfl, Try.sizeOf3⟩ (.nil)))))
instance : TPart PG 60 0 0 := TPart.of Try.underlying60 rfl rfl Try.isAgg3
instance : TPart PG 60 1 1 := TPart.of Try.underlying60 rfl rfl Try.isAgg3
instance : TPart PG 60 2 2 := TPart.of Try.underlying60 rfl rfl Try.isAgg3
instance : TPart PG 60 3 3 := TPart.of Try.underlying60 rfl rfl Try.isAgg3
instance : TField PG 60 0 0 := TField.of Try.underlying60 rfl rfl (n := 1) Try.sizeOf3 (by decide)
instance : TField PG 60 1 1 := TField.of Try.underlying60 rfl rfl (n := 1) Try.sizeOf3 (by decide)
instance : TField PG 60 2 2 := TField.of Try.underlying60 rfl rfl (n := 1) Try.sizeOf3 (by decide)
instance : TField PG 60 3 3 := TField.of Try.underlying60 rfl rfl (n := 1) Try.sizeOf3 (by decide)
instance : TScal PG 61 := ⟨Try.isAgg61⟩
instance : TSize PG 61 1 := ⟨Try.sizeOf61⟩
instance : TZero PG 61 [.slice none 0 0] := ⟨fun w => ⟨_, Try.zeroValue61 w, rfl⟩⟩
instance : TSlice PG 61 60 := ⟨Try.underlying61⟩
instance : TScal PG 62 := ⟨Try.isAgg62⟩
instance : TSize PG 62 1 := ⟨Try.sizeOf62⟩
instance : TZero PG 62 [.nilFunc] := ⟨fun w => ⟨_, Try.zeroValue62 w, rfl⟩⟩
instance : TScal PG 63 := ⟨Try.isAgg63⟩
instance : TSize PG 63 1 := ⟨Try.sizeOf63⟩
instance : TZero PG 63 [.map none] := ⟨fun w => ⟨_, Try.zeroValue63 w, rfl⟩⟩
instance : TMap PG 63 StrK (.int .i64 0) := ⟨_, _, Try.underlying63, Try.underlying9, fun w => Try.zeroValue3 w⟩
instance : TScal PG 64 := ⟨Try.isAgg64⟩
instance : TSize PG 64 1 := ⟨Try.sizeOf64⟩
instance : TZero PG 64 [.nilFunc] := ⟨fun w => ⟨_, Try.zeroValue64 w, rfl⟩⟩
instance : TScal PG 65 := ⟨Try.isAgg65⟩
instance : TSize PG 65 1 := ⟨Try.sizeOf65⟩
instance : TZero PG 65 [.nilFunc] := ⟨fun w => ⟨_, Try.zeroValue65 w, rfl⟩⟩
instance : TScal PG 66 := ⟨Try.isAgg66⟩
instance : TSize PG 66 1 := ⟨Try.sizeOf66⟩
instance : TZero PG 66 [.nilFunc] := ⟨fun w => ⟨_, Try.zeroValue66 w, rfl⟩⟩
instance : TScal PG 67 := ⟨Try.isAgg67⟩
instance : TSize PG 67 1 := ⟨Try.sizeOf67⟩
instance : TZero PG 67 [.nilFunc] := ⟨fun w => ⟨_, Try.zeroValue67 w, rfl⟩⟩
instance : TScal PG 68 := ⟨Try.isAgg68⟩
instance : TSize PG 68 1 := ⟨Try.sizeOf68⟩
instance : TZero PG 68 [.nilFunc] := ⟨fun w => ⟨_, Try.zeroValue68 w, rfl⟩⟩
instance : TScal PG 69 := ⟨Try.isAgg69⟩
instance : TSize PG 69 1 := ⟨Try.sizeOf69⟩
instance : TZero PG 69 [.nilFunc] := ⟨fun w => ⟨_, Try.zeroValue69 w, rfl⟩⟩
instance : TScal PG 70 := ⟨Try.isAgg70⟩
instance : TSize PG 70 1 := ⟨Try.sizeOf70⟩
instance : TZero PG 70 [.nilFunc] := ⟨fun w => ⟨_, Try.zeroValue70 w, rfl⟩⟩
instance : TScal PG 72 := ⟨Try.isAgg72⟩
instance : TSize PG 72 1 := ⟨Try.sizeOf72⟩
instance : TZero PG 72 [.nilFunc] := ⟨fun w => ⟨_, Try.zeroValue72 w, rfl⟩⟩
instance : TScal PG 73 := ⟨Try.isAgg73⟩
instance : TSize PG 73 1 := ⟨Try.sizeOf73⟩
instance : TZero PG 73 [.nilFunc] := ⟨fun w => ⟨_, Try.zeroValue73 w, rfl⟩⟩
instance : TScal PG 74 := ⟨Try.isAgg74⟩
instance : TSize PG 74 1 := ⟨Try.sizeOf74⟩
instance : TZero PG 74 [.nilFunc] := ⟨fun w => ⟨_, Try.zeroValue74 w, rfl⟩⟩
instance : TScal PG 75 := ⟨Try.isAgg75⟩
instance : TSize PG 75 1 := ⟨Try.sizeOf75⟩
instance : TZero PG 75 [.slice none 0 0] := ⟨fun w => ⟨_, Try.zeroValue75 w, rfl⟩⟩
instance : TSlice PG 75 39 := ⟨Try.underlying75⟩
instance : TScal PG 76 := ⟨Try.isAgg76⟩
instance : TSize PG 76 1 := ⟨Try.sizeOf76⟩
instance : TZero PG 76 [.nilFunc] := ⟨fun w => ⟨_, Try.zeroValue76 w, rfl⟩⟩
instance : TScal PG 77 := ⟨Try.isAgg77⟩
instance : TSize PG 77 1 := ⟨Try.sizeOf77⟩
instance : TZero PG 77 [.nilFunc] := ⟨fun w => ⟨_, Try.zeroValue77 w, rfl⟩⟩
instance : TScal PG 78 := ⟨Try.isAgg78⟩
instance : TSize PG 78 1 := ⟨Try.sizeOf78⟩
instance : TZero PG 78 [.nilFunc] := ⟨fun w => ⟨_, Try.zeroValue78 w, rfl⟩⟩
instance : TScal PG 79 := ⟨Try.isAgg79⟩
instance : TSize PG 79 1 := ⟨Try.sizeOf79⟩
instance : TZero PG 79 [.nilFunc] := ⟨fun w => ⟨_, Try.zeroValue79 w, rfl⟩⟩
instance : TScal PG 80 := ⟨Try.isAgg80⟩
instance : TSize PG 80 1 := ⟨Try.sizeOf80⟩
instance : TZero PG 80 [.nilFunc] := ⟨fun w => ⟨_, Try.zeroValue80 w, rfl⟩⟩
instance : TScal PG 81 := ⟨Try.isAgg81⟩
instance : TSize PG 81 1 := ⟨Try.sizeOf81⟩
instance : TZero PG 81 [.nilFunc] := ⟨fun w => ⟨_, Try.zeroValue81 w, rfl⟩⟩
instance : TScal PG 82 := ⟨Try.isAgg82⟩
instance : TSize PG 82 1 := ⟨Try.sizeOf82⟩
instance : TZero PG 82 [.nilFunc] := ⟨fun w => ⟨_, Try.zeroValue82 w, rfl⟩⟩
instance : TScal PG 83 := ⟨Try.isAgg83⟩
instance : TSize PG 83 1 := ⟨Try.sizeOf83⟩
instance : TZero PG 83 [.nilFunc] := ⟨fun w => ⟨_, Try.zeroValue83 w, rfl⟩⟩
instance : TScal PG 84 := ⟨Try.isAgg84⟩
instance : TSize PG 84 1 := ⟨Try.sizeOf84⟩
instance : TZero PG 84 [.nilFunc] := ⟨fun w => ⟨_, Try.zeroValue84 w, rfl⟩⟩
instance : TScal PG 85 := ⟨Try.isAgg85⟩
instance : TSize PG 85 1 := ⟨Try.sizeOf85⟩
instance : TZero PG 85 [.nilFunc] := ⟨fun w => ⟨_, Try.zeroValue85 w, rfl⟩⟩
instance : TScal PG 86 := ⟨Try.isAgg86⟩
instance : TSize PG 86 1 := ⟨Try.sizeOf86⟩
instance : TZero PG 86 [.nilFunc] := ⟨fun w => ⟨_, Try.zeroValue86 w, rfl⟩⟩
instance : TScal PG 87 := ⟨Try.isAgg87⟩
instance : TSize PG 87 1 := ⟨Try.sizeOf87⟩
instance : TZero PG 87 [.nilFunc] := ⟨fun w => ⟨_, Try.zeroValue87 w, rfl⟩⟩
instance : TScal PG 88 := ⟨Try.isAgg88⟩
instance : TSize PG 88 1 := ⟨Try.sizeOf88⟩
instance : TZero PG 88 [.nilFunc] := ⟨fun w => ⟨_, Try.zeroValue88 w, rfl⟩⟩
instance : TScal PG 89 := ⟨Try.isAgg89⟩
instance : TSize PG 89 1 := ⟨Try.sizeOf89⟩
instance : TZero PG 89 [.nilFunc] := ⟨fun w => ⟨_, Try.zeroValue89 w, rfl⟩⟩
instance : TScal PG 91 := ⟨Try.isAgg91⟩
instance : TSize PG 91 1 := ⟨Try.sizeOf91⟩
instance : TZero PG 91 [.nilFunc] := ⟨fun w => ⟨_, Try.zeroValue91 w, rfl⟩⟩
instance : TScal PG 92 := ⟨Try.isAgg92⟩
instance : TSize PG 92 1 := ⟨Try.sizeOf92⟩
instance : TZero PG 92 [.nilFunc] := ⟨fun w => ⟨_, Try.zeroValue92 w, rfl⟩⟩
instance : TScal PG 93 := ⟨Try.isAgg93⟩
instance : TSize PG 93 1 := ⟨Try.sizeOf93⟩
instance : TZero PG 93 [.slice none 0 0] := ⟨fun w => ⟨_, Try.zeroValue93 w, rfl⟩⟩
instance : TSlice PG 93 5 := ⟨Try.underlying93⟩
instance : TScal PG 94 := ⟨Try.isAgg94⟩
instance : TSize PG 94 1 := ⟨Try.sizeOf94⟩
instance : TZero PG 94 [.nilFunc] := ⟨fun w => ⟨_, Try.zeroValue94 w, rfl⟩⟩
instance : TScal PG 95 := ⟨Try.isAgg95⟩
instance : TSize PG 95 1 := ⟨Try.sizeOf95⟩
instance : TZero PG 95 [.int .u64 0] := ⟨fun w => ⟨_, Try.zeroValue95 w, rfl⟩⟩
instance : TInt PG 95 .u64 := ⟨Try.underlying95⟩
instance : TScal PG 96 := ⟨Try.isAgg96⟩
instance : TSize PG 96 1 := ⟨Try.sizeOf96⟩
instance : TZero PG 96 [.nilFunc] := ⟨fun w => ⟨_, Try.zeroValue96 w, rfl⟩⟩
instance : TScal PG 97 := ⟨Try.isAgg97⟩
instance : TSize PG 97 1 := ⟨Try.sizeOf97⟩
instance : TZero PG 97 [.map none] := ⟨fun w => ⟨_, Try.zeroValue97 w, rfl⟩⟩
instance : TMap PG 97 Int (.nilFunc) := ⟨_, _, Try.underlying97, Try.underlying3, fun w => Try.zeroValue96 w⟩
instance : TScal PG 98 := ⟨Try.isAgg98⟩
instance : TSize PG 98 1 := ⟨Try.sizeOf98⟩
instance : TZero PG 98 [.nilFunc] := ⟨fun w => ⟨_, Try.zeroValue98 w, rfl⟩⟩
instance : TScal PG 99 := ⟨Try.isAgg99⟩
instance : TSize PG 99 1 := ⟨Try.sizeOf99⟩
instance : TZero PG 99 [.pointer none] := ⟨fun w => ⟨_, Try.zeroValue99 w, rfl⟩⟩
instance : TScal PG 100 := ⟨Try.isAgg100⟩
instance : TSize PG 100 1 := ⟨Try.sizeOf100⟩
instance : TZero PG 100 [.nilFunc] := ⟨fun w => ⟨_, Try.zeroValue100 w, rfl⟩⟩
instance : TScal PG 101 := ⟨Try.isAgg101⟩
instance : TSize PG 101 1 := ⟨Try.sizeOf101⟩
instance : TZero PG 101 [.nilFunc] := ⟨fun w => ⟨_, Try.zeroValue101 w, rfl⟩⟩
instance : TScal PG 102 := ⟨Try.isAgg102⟩
instance : TSize PG 102 1 := ⟨Try.sizeOf102⟩
instance : TZero PG 102 [.nilFunc] := ⟨fun w => ⟨_, Try.zeroValue102 w, rfl⟩⟩
instance : TScal PG 104 := ⟨Try.isAgg104⟩
instance : TSize PG 104 1 := ⟨Try.sizeOf104⟩
instance : TZero PG 104 [.nilFunc] := ⟨fun w => ⟨_, Try.zeroValue104 w, rfl⟩⟩
instance : TScal PG 105 := ⟨Try.isAgg105⟩
instance : TSize PG 105 1 := ⟨Try.sizeOf105⟩
instance : TZero PG 105 [.nilFunc] := ⟨fun w => ⟨_, Try.zeroValue105 w, rfl⟩⟩
instance : TScal PG 106 := ⟨Try.isAgg106⟩
instance : TSize PG 106 1 := ⟨Try.sizeOf106⟩
instance : TZero PG 106 [.nilFunc] := ⟨fun w => ⟨_, Try.zeroValue106 w, rfl⟩⟩
instance : TScal PG 107 := ⟨Try.isAgg107⟩
instance : TSize PG 107 1 := ⟨Try.sizeOf107⟩
instance : TZero PG 107 [.nilFunc] := ⟨fun w => ⟨_, Try.zeroValue107 w, rfl⟩⟩
instance : TScal PG 108 := ⟨Try.isAgg108⟩
instance : TSize PG 108 1 := ⟨Try.sizeOf108⟩
instance : TZero PG 108 [.nilFunc] := ⟨fun w => ⟨_, Try.zeroValue108 w, rfl⟩⟩
instance : TScal PG 109 := ⟨Try.isAgg109⟩
instance : TSize PG 109 1 := ⟨Try.sizeOf109⟩
instance : TZero PG 109 [.nilFunc] := ⟨fun w => ⟨_, Try.zeroValue109 w, rfl⟩⟩
instance : TScal PG 110 := ⟨Try.isAgg110⟩
instance : TSize PG 110 1 := ⟨Try.sizeOf110⟩
instance : TZero PG 110 [.nilFunc] := ⟨fun w => ⟨_, Try.zeroValue110 w, rfl⟩⟩
instance : TScal PG 111 := ⟨Try.isAgg111⟩
instance : TSize PG 111 1 := ⟨Try.sizeOf111⟩
instance : TZero PG 111 [.nilFunc] := ⟨fun w => ⟨_, Try.zeroValue111 w, rfl⟩⟩
instance : TScal PG 112 := ⟨Try.isAgg112⟩
instance : TSize PG 112 1 := ⟨Try.sizeOf112⟩
instance : TZero PG 112 [.int .i64 0] := ⟨fun w => ⟨_, Try.zeroValue112 w, rfl⟩⟩
instance : TInt PG 112 .i64 := ⟨Try.underlying112⟩
instance : TScal PG 114 := ⟨Try.isAgg114⟩
instance : TSize PG 114 1 := ⟨Try.sizeOf114⟩
instance : TZero PG 114 [.nilFunc] := ⟨fun w => ⟨_, Try.zeroValue114 w, rfl⟩⟩
instance : TScal PG 115 := ⟨Try.isAgg115⟩
instance : TSize PG 115 1 := ⟨Try.sizeOf115⟩
instance : TZero PG 115 [.nilFunc] := ⟨fun w => ⟨_, Try.zeroValue115 w, rfl⟩⟩
instance : TScal PG 116 := ⟨Try.isAgg116⟩
instance : TSize PG 116 1 := ⟨Try.sizeOf116⟩
instance : TZero PG 116 [.nilFunc] := ⟨fun w => ⟨_, Try.zeroValue116 w, rfl⟩⟩
instance : TScal PG 117 := ⟨Try.isAgg117⟩
instance : TSize PG 117 1 := ⟨Try.sizeOf117⟩
instance : TZero PG 117 [.nilFunc] := ⟨fun w => ⟨_, Try.zeroValue117 w, rfl⟩⟩
instance : TScal PG 118 := ⟨Try.isAgg118⟩
instance : TSize PG 118 1 := ⟨Try.sizeOf118⟩
instance : TZero PG 118 [.nilFunc] := ⟨fun w => ⟨_, Try.zeroValue118 w, rfl⟩⟩
instance : TScal PG 119 := ⟨Try.isAgg119⟩
instance : TSize PG 119 1 := ⟨Try.sizeOf119⟩
instance : TZero PG 119 [.int .u32 0] := ⟨fun w => ⟨_, Try.zeroValue119 w, rfl⟩⟩
instance : TInt PG 119 .u32 := ⟨Try.underlying119⟩
instance : TScal PG 120 := ⟨Try.isAgg120⟩
instance : TSize PG 120 1 := ⟨Try.sizeOf120⟩
instance : TZero PG 120 [.nilFunc] := ⟨fun w => ⟨_, Try.zeroValue120 w, rfl⟩⟩
instance : TScal PG 121 := ⟨Try.isAgg121⟩
instance : TSize PG 121 1 := ⟨Try.sizeOf121⟩
instance : TZero PG 121 [.int .u64 0] := ⟨fun w => ⟨_, Try.zeroValue121 w, rfl⟩⟩
instance : TInt PG 121 .u64 := ⟨Try.underlying121⟩
instance : TScal PG 122 := ⟨Try.isAgg122⟩
instance : TSize PG 122 1 := ⟨Try.sizeOf122⟩
instance : TZero PG 122 [.nilFunc] := ⟨fun w => ⟨_, Try.zeroValue122 w, rfl⟩⟩
instance : TScal PG 123 := ⟨Try.isAgg123⟩
instance : TSize PG 123 1 := ⟨Try.sizeOf123⟩
instance : TZero PG 123 [.nilFunc] := ⟨fun w => ⟨_, Try.zeroValue123 w, rfl⟩⟩
instance : TScal PG 124 := ⟨Try.isAgg124⟩
instance : TSize PG 124 1 := ⟨Try.sizeOf124⟩
instance : TZero PG 124 [.nilFunc] := ⟨fun w => ⟨_, Try.zeroValue124 w, rfl⟩⟩
instance : TScal PG 125 := ⟨Try.isAgg125⟩
instance : TSize PG 125 1 := ⟨Try.sizeOf125⟩
instance : TZero PG 125 [.int .u64 0] := ⟨fun w => ⟨_, Try.zeroValue125 w, rfl⟩⟩
instance : TInt PG 125 .u64 := ⟨Try.underlying125⟩
instance : TScal PG 126 := ⟨Try.isAgg126⟩
instance : TSize PG 126 1 := ⟨Try.sizeOf126⟩
instance : TZero PG 126 [.nilFunc] := ⟨fun w => ⟨_, Try.zeroValue126 w, rfl⟩⟩
instance : TScal PG 127 := ⟨Try.isAgg127⟩
instance : TSize PG 127 1 := ⟨Try.sizeOf127⟩
instance : TZero PG 127 [.nilFunc] := ⟨fun w => ⟨_, Try.zeroValue127 w, rfl⟩⟩
instance : TScal PG 128 := ⟨Try.isAgg128⟩
instance : TSize PG 128 1 := ⟨Try.sizeOf128⟩
instance : TZero PG 128 [.nilFunc] := ⟨fun w => ⟨_, Try.zeroValue128 w, rfl⟩⟩
instance : TScal PG 129 := ⟨Try.isAgg129⟩
instance : TSize PG 129 1 := ⟨Try.sizeOf129⟩
instance : TZero PG 129 [.nilFunc] := ⟨fun w => ⟨_, Try.zeroValue129 w, rfl⟩⟩
instance : TScal PG 130 := ⟨Try.isAgg130⟩
instance : TSize PG 130 1 := ⟨Try.sizeOf130⟩
instance : TZero PG 130 [.nilFunc] := ⟨fun w => ⟨_, Try.zeroValue130 w, rfl⟩⟩
instance : TScal PG 131 := ⟨Try.isAgg131⟩
instance : TSize PG 131 1 := ⟨Try.sizeOf131⟩
instance : TZero PG 131 [.nilFunc] := ⟨fun w => ⟨_, Try.zeroValue131 w, rfl⟩⟩
instance : TScal PG 132 := ⟨Try.isAgg132⟩
instance : TSize PG 132 1 := ⟨Try.sizeOf132⟩
instance : TZero PG 132 [.nilFunc] := ⟨fun w => ⟨_, Try.zeroValue132 w, rfl⟩⟩
instance : TScal PG 133 := ⟨Try.isAgg133⟩
instance : TSize PG 133 1 := ⟨Try.sizeOf133⟩
instance : TZero PG 133 [.nilFunc] := ⟨fun w => ⟨_, Try.zeroValue133 w, rfl⟩⟩
instance : TScal PG 134 := ⟨Try.isAgg134⟩
instance : TSize PG 134 1 := ⟨Try.sizeOf134⟩
instance : TZero PG 134 [.nilFunc] := ⟨fun w => ⟨_, Try.zeroValue134 w, rfl⟩⟩
instance : TScal PG 135 := ⟨Try.isAgg135⟩
instance : TSize PG 135 1 := ⟨Try.sizeOf135⟩
instance : TZero PG 135 [.pointer none] := ⟨fun w => ⟨_, Try.zeroValue135 w, rfl⟩⟩
instance : TScal PG 136 := ⟨Try.isAgg136⟩
instance : TSize PG 136 1 := ⟨Try.sizeOf136⟩
instance : TZero PG 136 [.nilFunc] := ⟨fun w => ⟨_, Try.zeroValue136 w, rfl⟩⟩
instance : TScal PG 137 := ⟨Try.isAgg137⟩
instance : TSize PG 137 1 := ⟨Try.sizeOf137⟩
instance : TZero PG 137 [.nilFunc] := ⟨fun w => ⟨_, Try.zeroValue137 w, rfl⟩⟩
instance : TScal PG 138 := ⟨Try.isAgg138⟩
instance : TSize PG 138 1 := ⟨Try.sizeOf138⟩
instance : TZero PG 138 [.nilFunc] := ⟨fun w => ⟨_, Try.zeroValue138 w, rfl⟩⟩
instance : TScal PG 139 := ⟨Try.isAgg139⟩
instance : TSize PG 139 1 := ⟨Try.sizeOf139⟩
instance : TZero PG 139 [.nilFunc] := ⟨fun w => ⟨_, Try.zeroValue139 w, rfl⟩⟩
instance : TScal PG 140 := ⟨Try.isAgg140⟩
instance : TSize PG 140 1 := ⟨Try.sizeOf140⟩
instance : TZero PG 140 [.nilFunc] := ⟨fun w => ⟨_, Try.zeroValue140 w, rfl⟩⟩
instance : TScal PG 141 := ⟨Try.isAgg141⟩
instance : TSize PG 141 1 := ⟨Try.sizeOf141⟩
instance : TZero PG 141 [.nilFunc] := ⟨fun w => ⟨_, Try.zeroValue141 w, rfl⟩⟩
instance : TAgg PG 142 4 := ⟨Try.isAgg142, Try.sizeOf142⟩
instance : TSize PG 142 4 := ⟨Try.sizeOf142⟩
instance : TZero PG 142 [.pointer none, .pointer none, .pointer none, .string ByteArray.empty] := ⟨fun w => ⟨_, Try.zeroValue142 w, rfl⟩⟩
instance : TBuild PG 142 [(0, 1), (1, 1), (2, 1), (3, 1)] [.pointer none, .pointer none, .pointer none, .string ByteArray.empty] := TBuild.of Try.underlying142 TZero.run (.cons ⟨rfl, Try.sizeOf17⟩ (.cons ⟨rfl, Try.sizeOf17⟩ (.cons ⟨rfl, Try.sizeOf17⟩ (.cons ⟨rfl, Try.sizeOf9⟩ (.nil)))))
instance : TPart PG 142 0 0 := TPart.of Try.underlying142 rfl rfl Try.isAgg17
instance : TPart PG 142 1 1 := TPart.of Try.underlying142 rfl rfl Try.isAgg17
instance : TPart PG 142 2 2 := TPart.of Try.underlying142 rfl rfl Try.isAgg17
instance : TPart PG 142 3 3 := TPart.of Try.underlying142 rfl rfl Try.isAgg9
instance : TField PG 142 0 0 := TField.of Try.underlying142 rfl rfl (n := 1) Try.sizeOf17 (by decide)
instance : TField PG 142 1 1 := TField.of Try.underlying142 rfl rfl (n := 1) Try.sizeOf17 (by decide)
instance : TField PG 142 2 2 := TField.of Try.underlying142 rfl rfl (n := 1) Try.sizeOf17 (by decide)
instance : TField PG 142 3 3 := TField.of Try.underlying142 rfl rfl (n := 1) Try.sizeOf9 (by decide)
instance : TAgg PG 143 4 := ⟨Try.isAgg143, Try.sizeOf143⟩
instance : TSize PG 143 4 := ⟨Try.sizeOf143⟩
instance : TZero PG 143 [.pointer none, .pointer none, .pointer none, .string ByteArray.empty] := ⟨fun w => ⟨_, Try.zeroValue143 w, rfl⟩⟩
instance : TBuild PG 143 [(0, 1), (1, 1), (2, 1), (3, 1)] [.pointer none, .pointer none, .pointer none, .string ByteArray.empty] := TBuild.of Try.underlying143 TZero.run (.cons ⟨rfl, Try.sizeOf17⟩ (.cons ⟨rfl, Try.sizeOf17⟩ (.cons ⟨rfl, Try.sizeOf17⟩ (.cons ⟨rfl, Try.sizeOf9⟩ (.nil)))))
instance : TPart PG 143 0 0 := TPart.of Try.underlying143 rfl rfl Try.isAgg17
instance : TPart PG 143 1 1 := TPart.of Try.underlying143 rfl rfl Try.isAgg17
instance : TPart PG 143 2 2 := TPart.of Try.underlying143 rfl rfl Try.isAgg17
instance : TPart PG 143 3 3 := TPart.of Try.underlying143 rfl rfl Try.isAgg9
instance : TField PG 143 0 0 := TField.of Try.underlying143 rfl rfl (n := 1) Try.sizeOf17 (by decide)
instance : TField PG 143 1 1 := TField.of Try.underlying143 rfl rfl (n := 1) Try.sizeOf17 (by decide)
instance : TField PG 143 2 2 := TField.of Try.underlying143 rfl rfl (n := 1) Try.sizeOf17 (by decide)
instance : TField PG 143 3 3 := TField.of Try.underlying143 rfl rfl (n := 1) Try.sizeOf9 (by decide)
instance : TAgg PG 144 0 := ⟨Try.isAgg144, Try.sizeOf144⟩
instance : TSize PG 144 0 := ⟨Try.sizeOf144⟩
instance : TZero PG 144 [] := ⟨fun w => ⟨_, Try.zeroValue144 w, rfl⟩⟩
instance : TAgg PG 145 0 := ⟨Try.isAgg145, Try.sizeOf145⟩
instance : TSize PG 145 0 := ⟨Try.sizeOf145⟩
instance : TZero PG 145 [] := ⟨fun w => ⟨_, Try.zeroValue145 w, rfl⟩⟩
instance : TBuild PG 145 [(0, 0)] [] := TBuild.of Try.underlying145 TZero.run (.cons ⟨rfl, Try.sizeOf144⟩ (.nil))
instance : TAgg PG 146 0 := ⟨Try.isAgg146, Try.sizeOf146⟩
instance : TSize PG 146 0 := ⟨Try.sizeOf146⟩
instance : TZero PG 146 [] := ⟨fun w => ⟨_, Try.zeroValue146 w, rfl⟩⟩
instance : TBuild PG 146 [(0, 0)] [] := TBuild.of Try.underlying146 TZero.run (.cons ⟨rfl, Try.sizeOf144⟩ (.nil))
instance : TScal PG 147 := ⟨Try.isAgg147⟩
instance : TSize PG 147 1 := ⟨Try.sizeOf147⟩
instance : TZero PG 147 [.nilFunc] := ⟨fun w => ⟨_, Try.zeroValue147 w, rfl⟩⟩
instance : TScal PG 148 := ⟨Try.isAgg148⟩
instance : TSize PG 148 1 := ⟨Try.sizeOf148⟩
instance : TZero PG 148 [.int .u8 0] := ⟨fun w => ⟨_, Try.zeroValue148 w, rfl⟩⟩
instance : TInt PG 148 .u8 := ⟨Try.underlying148⟩
instance : TScal PG 149 := ⟨Try.isAgg149⟩
instance : TSize PG 149 1 := ⟨Try.sizeOf149⟩
instance : TZero PG 149 [.int .u8 0] := ⟨fun w => ⟨_, Try.zeroValue149 w, rfl⟩⟩
instance : TInt PG 149 .u8 := ⟨Try.underlying149⟩
instance : TScal PG 150 := ⟨Try.isAgg150⟩
instance : TSize PG 150 1 := ⟨Try.sizeOf150⟩
instance : TZero PG 150 [.nilFunc] := ⟨fun w => ⟨_, Try.zeroValue150 w, rfl⟩⟩
instance : TScal PG 151 := ⟨Try.isAgg151⟩
instance : TSize PG 151 1 := ⟨Try.sizeOf151⟩
instance : TZero PG 151 [.pointer none] := ⟨fun w => ⟨_, Try.zeroValue151 w, rfl⟩⟩
instance : TScal PG 152 := ⟨Try.isAgg152⟩
instance : TSize PG 152 1 := ⟨Try.sizeOf152⟩
instance : TZero PG 152 [.int .i32 0] := ⟨fun w => ⟨_, Try.zeroValue152 w, rfl⟩⟩
instance : TInt PG 152 .i32 := ⟨Try.underlying152⟩
instance : TScal PG 153 := ⟨Try.isAgg153⟩
instance : TSize PG 153 1 := ⟨Try.sizeOf153⟩
instance : TZero PG 153 [.int .i32 0] := ⟨fun w => ⟨_, Try.zeroValue153 w, rfl⟩⟩
instance : TInt PG 153 .i32 := ⟨Try.underlying153⟩
instance : TAgg PG 154 11 := ⟨Try.isAgg154, Try.sizeOf154⟩
instance : TSize PG 154 11 := ⟨Try.sizeOf154⟩
instance : TZero PG 154 [.int .u64 0, .int .u64 0, .int .u32 0, .int .u8 0, .int .u8 0, .int .u8 0, .int .u8 0, .nilFunc, .pointer none, .int .i32 0, .int .i32 0] := ⟨fun w => ⟨_, Try.zeroValue154 w, rfl⟩⟩
instance : TBuild PG 154 [(0, 1), (1, 1), (2, 1), (3, 1), (4, 1), (5, 1), (6, 1), (7, 1), (8, 1), (9, 1), (10, 1)] [.int .u64 0, .int .u64 0, .int .u32 0, .int .u8 0, .int .u8 0, .int .u8 0, .int .u8 0, .nilFunc, .pointer none, .int .i32 0, .int .i32 0] := TBuild.of Try.underlying154 TZero.run (.cons ⟨rfl, Try.sizeOf12⟩ (.cons ⟨rfl, Try.sizeOf12⟩ (.cons ⟨rfl, Try.sizeOf119⟩ (.cons ⟨rfl, Try.sizeOf148⟩ (.cons ⟨rfl, Try.sizeOf5⟩ (.cons ⟨rfl, Try.sizeOf5⟩ (.cons ⟨rfl, Try.sizeOf149⟩ (.cons ⟨rfl, Try.sizeOf150⟩ (.cons ⟨rfl, Try.sizeOf151⟩ (.cons ⟨rfl, Try.sizeOf152⟩ (.cons ⟨rfl, Try.sizeOf153⟩ (.nil))))))))))))
instance : TPart PG 154 0 0 := TPart.of Try.underlying154 rfl rfl Try.isAgg12
instance : TPart PG 154 1 1 := TPart.of Try.underlying154 rfl rfl Try.isAgg12
instance : TPart PG 154 2 2 := TPart.of Try.underlying154 rfl rfl Try.isAgg119
instance : TPart PG 154 3 3 := TPart.of Try.underlying154 rfl rfl Try.isAgg148
instance : TPart PG 154 4 4 := TPart.of Try.underlying154 rfl rfl Try.isAgg5
instance : TPart PG 154 5 5 := TPart.of Try.underlying154 rfl rfl Try.isAgg5
instance : TPart PG 154 6 6 := TPart.of Try.underlying154 rfl rfl Try.isAgg149
instance : TPart PG 154 7 7 := TPart.of Try.underlying154 rfl rfl Try.isAgg150
instance : TPart PG 154 8 8 := TPart.of Try.underlying154 rfl rfl Try.isAgg151
instance : TPart PG 154 9 9 := TPart.of Try.underlying154 rfl rfl Try.isAgg152
instance : TPart PG 154 10 10 := TPart.of Try.underlying154 rfl rfl Try.isAgg153
instance : TField PG 154 0 0 := TField.of Try.underlying154 rfl rfl (n := 1) Try.sizeOf12 (by decide)
instance : TField PG 154 1 1 := TField.of Try.underlying154 rfl rfl (n := 1) Try.sizeOf12 (by decide)
instance : TField PG 154 2 2 := TField.of Try.underlying154 rfl rfl (n := 1) Try.sizeOf119 (by decide)
instance : TField PG 154 3 3 := TField.of Try.underlying154 rfl rfl (n := 1) Try.sizeOf148 (by decide)
instance : TField PG 154 4 4 := TField.of Try.underlying154 rfl rfl (n := 1) Try.sizeOf5 (by decide)
instance : TField PG 154 5 5 := TField.of Try.underlying154 rfl rfl (n := 1) Try.sizeOf5 (by decide)
instance : TField PG 154 6 6 := TField.of Try.underlying154 rfl rfl (n := 1) Try.sizeOf149 (by decide)
instance : TField PG 154 7 7 := TField.of Try.underlying154 rfl rfl (n := 1) Try.sizeOf150 (by decide)
instance : TField PG 154 8 8 := TField.of Try.underlying154 rfl rfl (n := 1) Try.sizeOf151 (by decide)
instance : TField PG 154 9 9 := TField.of Try.underlying154 rfl rfl (n := 1) Try.sizeOf152 (by decide)
instance : TField PG 154 10 10 := TField.of Try.underlying154 rfl rfl (n := 1) Try.sizeOf153 (by decide)
instance : TAgg PG 155 11 := ⟨Try.isAgg155, Try.sizeOf155⟩
instance : TSize PG 155 11 := ⟨Try.sizeOf155⟩
instance : TZero PG 155 [.int .u64 0, .int .u64 0, .int .u32 0, .int .u8 0, .int .u8 0, .int .u8 0, .int .u8 0, .nilFunc, .pointer none, .int .i32 0, .int .i32 0] := ⟨fun w => ⟨_, Try.zeroValue155 w, rfl⟩⟩
instance : TBuild PG 155 [(0, 1), (1, 1), (2, 1), (3, 1), (4, 1), (5, 1), (6, 1), (7, 1), (8, 1), (9, 1), (10, 1)] [.int .u64 0, .int .u64 0, .int .u32 0, .int .u8 0, .int .u8 0, .int .u8 0, .int .u8 0, .nilFunc, .pointer none, .int .i32 0, .int .i32 0] := TBuild.of Try.underlying155 TZero.run (.cons ⟨rfl, Try.sizeOf12⟩ (.cons ⟨rfl, Try.sizeOf12⟩ (.cons ⟨rfl, Try.sizeOf119⟩ (.cons ⟨rfl, Try.sizeOf148⟩ (.cons ⟨rfl, Try.sizeOf5⟩ (.cons ⟨rfl, Try.sizeOf5⟩ (.cons ⟨rfl, Try.sizeOf149⟩ (.cons ⟨rfl, Try.sizeOf150⟩ (.cons ⟨rfl, Try.sizeOf151⟩ (.cons ⟨rfl, Try.sizeOf152⟩ (.cons ⟨rfl, Try.sizeOf153⟩ (.nil))))))))))))
instance : TPart PG 155 0 0 := TPart.of Try.underlying155 rfl rfl Try.isAgg12
instance : TPart PG 155 1 1 := TPart.of Try.underlying155 rfl rfl Try.isAgg12
instance : TPart PG 155 2 2 := TPart.of Try.underlying155 rfl rfl Try.isAgg119
instance : TPart PG 155 3 3 := TPart.of Try.underlying155 rfl rfl Try.isAgg148
instance : TPart PG 155 4 4 := TPart.of Try.underlying155 rfl rfl Try.isAgg5
instance : TPart PG 155 5 5 := TPart.of Try.underlying155 rfl rfl Try.isAgg5
instance : TPart PG 155 6 6 := TPart.of Try.underlying155 rfl rfl Try.isAgg149
instance : TPart PG 155 7 7 := TPart.of Try.underlying155 rfl rfl Try.isAgg150
instance : TPart PG 155 8 8 := TPart.of Try.underlying155 rfl rfl Try.isAgg151
instance : TPart PG 155 9 9 := TPart.of Try.underlying155 rfl rfl Try.isAgg152
instance : TPart PG 155 10 10 := TPart.of Try.underlying155 rfl rfl Try.isAgg153
instance : TField PG 155 0 0 := TField.of Try.underlying155 rfl rfl (n := 1) Try.sizeOf12 (by decide)
instance : TField PG 155 1 1 := TField.of Try.underlying155 rfl rfl (n := 1) Try.sizeOf12 (by decide)
instance : TField PG 155 2 2 := TField.of Try.underlying155 rfl rfl (n := 1) Try.sizeOf119 (by decide)
instance : TField PG 155 3 3 := TField.of Try.underlying155 rfl rfl (n := 1) Try.sizeOf148 (by decide)
instance : TField PG 155 4 4 := TField.of Try.underlying155 rfl rfl (n := 1) Try.sizeOf5 (by decide)
instance : TField PG 155 5 5 := TField.of Try.underlying155 rfl rfl (n := 1) Try.sizeOf5 (by decide)
instance : TField PG 155 6 6 := TField.of Try.underlying155 rfl rfl (n := 1) Try.sizeOf149 (by decide)
instance : TField PG 155 7 7 := TField.of Try.underlying155 rfl rfl (n := 1) Try.sizeOf150 (by decide)
instance : TField PG 155 8 8 := TField.of Try.underlying155 rfl rfl (n := 1) Try.sizeOf151 (by decide)
instance : TField PG 155 9 9 := TField.of Try.underlying155 rfl rfl (n := 1) Try.sizeOf152 (by decide)
instance : TField PG 155 10 10 := TField.of Try.underlying155 rfl rfl (n := 1) Try.sizeOf153 (by decide)
instance : TFunc PG 3 := ⟨Try.call3⟩
instance : TFunc PG 4 := ⟨Try.call4⟩
instance : TFunc PG 5 := ⟨Try.call5⟩
instance : TFunc PG 6 := ⟨Try.call6⟩
instance : TFunc PG 7 := ⟨Try.call7⟩
instance : TFunc PG 8 := ⟨Try.call8⟩
instance : TFunc PG 9 := ⟨Try.call9⟩
instance : TFunc PG 10 := ⟨Try.call10⟩
instance : TFunc PG 11 := ⟨Try.call11⟩
instance : TFunc PG 12 := ⟨Try.call12⟩
instance : TFunc PG 13 := ⟨Try.call13⟩
instance : TFunc PG 14 := ⟨Try.call14⟩
instance : TFunc PG 15 := ⟨Try.call15⟩
instance : TFunc PG 16 := ⟨Try.call16⟩
instance : TFunc PG 17 := ⟨Try.call17⟩
instance : TFunc PG 18 := ⟨Try.call18⟩
instance : TFunc PG 19 := ⟨Try.call19⟩
instance : TFunc PG 20 := ⟨Try.call20⟩
instance : TFunc PG 21 := ⟨Try.call21⟩
instance : TFunc PG 22 := ⟨Try.call22⟩
instance : TFunc PG 23 := ⟨Try.call23⟩
instance : TFunc PG 24 := ⟨Try.call24⟩
instance : TFunc PG 25 := ⟨Try.call25⟩
instance : TFunc PG 26 := ⟨Try.call26⟩
instance : TFunc PG 27 := ⟨Try.call27⟩
instance : TFunc PG 28 := ⟨Try.call28⟩
instance : TFunc PG 29 := ⟨Try.call29⟩
instance : TFunc PG 30 := ⟨Try.call30⟩
instance : TFunc PG 31 := ⟨Try.call31⟩
instance : TFunc PG 32 := ⟨Try.call32⟩
instance : TFunc PG 33 := ⟨Try.call33⟩
instance : TFunc PG 34 := ⟨Try.call34⟩
instance : TFunc PG 35 := ⟨Try.call35⟩
instance : TFunc PG 36 := ⟨Try.call36⟩
instance : TFunc PG 37 := ⟨Try.call37⟩
instance : TFunc PG 38 := ⟨Try.call38⟩
instance : TFunc PG 39 := ⟨Try.call39⟩
instance : TFunc PG 40 := ⟨Try.call40⟩
instance : TFunc PG 41 := ⟨Try.call41⟩
instance : TFunc PG 42 := ⟨Try.call42⟩
instance : TFunc PG 43 := ⟨Try.call43⟩
instance : TFunc PG 44 := ⟨Try.call44⟩
instance : TFunc PG 45 := ⟨Try.call45⟩
instance : TFunc PG 46 := ⟨Try.call46⟩
instance : TFunc PG 47 := ⟨Try.call47⟩
instance : TFunc PG 48 := ⟨Try.call48⟩
instance : TFunc PG 49 := ⟨Try.call49⟩
instance : TFunc PG 50 := ⟨Try.call50⟩
instance : TFunc PG 51 := ⟨Try.call51⟩
instance : TFunc PG 52 := ⟨Try.call52⟩
instance : TFunc PG 53 := ⟨Try.call53⟩
instance : TFunc PG 54 := ⟨Try.call54⟩
instance : TFunc PG 55 := ⟨Try.call55⟩
instance : TFunc PG 56 := ⟨Try.call56⟩
instance : TFunc PG 57 := ⟨Try.call57⟩
instance : TFunc PG 58 := ⟨Try.call58⟩
instance : TFunc PG 59 := ⟨Try.call59⟩
instance : TFunc PG 60 := ⟨Try.call60⟩
instance : TFunc PG 61 := ⟨Try.call61⟩
instance : TFunc PG 62 := ⟨Try.call62⟩
instance : TFunc PG 63 := ⟨Try.call63⟩
instance : TFunc PG 64 := ⟨Try.call64⟩
instance : TFunc PG 65 := ⟨Try.call65⟩
instance : TFunc PG 66 := ⟨Try.call66⟩
instance : TFunc PG 67 := ⟨Try.call67⟩
instance : TFunc PG 68 := ⟨Try.call68⟩
instance : TFunc PG 69 := ⟨Try.call69⟩
instance : TFunc PG 70 := ⟨Try.call70⟩
instance : TFunc PG 71 := ⟨Try.call71⟩
instance : TFunc PG 72 := ⟨Try.call72⟩
instance : TFunc PG 73 := ⟨Try.call73⟩
instance : TFunc PG 74 := ⟨Try.call74⟩
instance : TFunc PG 75 := ⟨Try.call75⟩
instance : TFunc PG 76 := ⟨Try.call76⟩
instance : TFunc PG 77 := ⟨Try.call77⟩
instance : TFunc PG 78 := ⟨Try.call78⟩
instance : TFunc PG 79 := ⟨Try.call79⟩
instance : TFunc PG 80 := ⟨Try.call80⟩
instance : TFunc PG 81 := ⟨Try.call81⟩
instance : TFunc PG 82 := ⟨Try.call82⟩
instance : TFunc PG 83 := ⟨Try.call83⟩
instance : TFunc PG 84 := ⟨Try.call84⟩
instance : TFunc PG 85 := ⟨Try.call85⟩
instance : TFunc PG 86 := ⟨Try.call86⟩
instance : TFunc PG 87 := ⟨Try.call87⟩
instance : TFunc PG 88 := ⟨Try.call88⟩
instance : TFunc PG 89 := ⟨Try.call89⟩
instance : TFunc PG 90 := ⟨Try.call90⟩
instance : TFunc PG 91 := ⟨Try.call91⟩
instance : TFunc PG 92 := ⟨Try.call92⟩
instance : TFunc PG 93 := ⟨Try.call93⟩
instance : TFunc PG 94 := ⟨Try.call94⟩
instance : TFunc PG 95 := ⟨Try.call95⟩
instance : TFunc PG 96 := ⟨Try.call96⟩
instance : TFunc PG 97 := ⟨Try.call97⟩
instance : TFunc PG 99 := ⟨Try.call99⟩
instance : TFunc PG 100 := ⟨Try.call100⟩
instance : TFunc PG 101 := ⟨Try.call101⟩
instance : TFunc PG 102 := ⟨Try.call102⟩
instance : TFunc PG 103 := ⟨Try.call103⟩
instance : TFunc PG 104 := ⟨Try.call104⟩
instance : TFunc PG 105 := ⟨Try.call105⟩
instance : TFunc PG 106 := ⟨Try.call106⟩
instance : TFunc PG 107 := ⟨Try.call107⟩
instance : TFunc PG 108 := ⟨Try.call108⟩
instance : TFunc PG 109 := ⟨Try.call109⟩
instance : TFunc PG 110 := ⟨Try.call110⟩
instance : TFunc PG 111 := ⟨Try.call111⟩
instance : TFunc PG 112 := ⟨Try.call112⟩
instance : TFunc PG 113 := ⟨Try.call113⟩
instance : TFunc PG 114 := ⟨Try.call114⟩
instance : TFunc PG 115 := ⟨Try.call115⟩
instance : TFunc PG 116 := ⟨Try.call116⟩
instance : TFunc PG 117 := ⟨Try.call117⟩
instance : TFunc PG 118 := ⟨Try.call118⟩
instance : TFunc PG 119 := ⟨Try.call119⟩
end Go.Proofs.Ytpkigjlnbfgjcaa

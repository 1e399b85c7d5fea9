/- Sizes, bytes and zero values of types. -/
import Derived.Test.YteiclengdlhnnaaProg
import Derived.Test.YteiclengdlhnnaaSimB
import Derived.KernelRfl
namespace Go.Proofs.Yteiclengdlhnnaa
open Go Go.Sh
theorem tsz0 : sz Try.prog 0 = some 1 := by kernel_rfl
theorem tby0 : bytesV Try.prog 0 = some 0 := by kernel_rfl
theorem tag0 : aggT Try.prog 0 = some false := by kernel_rfl
theorem tze0 : zeroV Try.prog 0 = some (.tuple #[]) := by kernel_rfl
theorem tsz3 : sz Try.prog 3 = some 1 := by kernel_rfl
theorem tby3 : bytesV Try.prog 3 = some 8 := by kernel_rfl
theorem tag3 : aggT Try.prog 3 = some false := by kernel_rfl
theorem tze3 : zeroV Try.prog 3 = some (.int .i64 0) := by kernel_rfl
theorem tsz4 : sz Try.prog 4 = some 1 := by kernel_rfl
theorem tby4 : bytesV Try.prog 4 = some 1 := by kernel_rfl
theorem tag4 : aggT Try.prog 4 = some false := by kernel_rfl
theorem tze4 : zeroV Try.prog 4 = some (.bool false) := by kernel_rfl
theorem tsz5 : sz Try.prog 5 = some 1 := by kernel_rfl
theorem tby5 : bytesV Try.prog 5 = some 1 := by kernel_rfl
theorem tag5 : aggT Try.prog 5 = some false := by kernel_rfl
theorem tze5 : zeroV Try.prog 5 = some (.int .u8 0) := by kernel_rfl
theorem tsz9 : sz Try.prog 9 = some 1 := by kernel_rfl
theorem tby9 : bytesV Try.prog 9 = some 16 := by kernel_rfl
theorem tag9 : aggT Try.prog 9 = some false := by kernel_rfl
theorem tze9 : zeroV Try.prog 9 = some (.string .empty) := by kernel_rfl
theorem tsz23 : sz Try.prog 23 = some 1 := by kernel_rfl
theorem tby23 : bytesV Try.prog 23 = some 24 := by kernel_rfl
theorem tag23 : aggT Try.prog 23 = some false := by kernel_rfl
theorem tze23 : zeroV Try.prog 23 = some (.slice none 0 0) := by kernel_rfl
theorem tsz25 : sz Try.prog 25 = some 2 := by kernel_rfl
theorem tby25 : bytesV Try.prog 25 = some 16 := by kernel_rfl
theorem tag25 : aggT Try.prog 25 = some true := by kernel_rfl
theorem tze25 : zeroV Try.prog 25 = some (.agg #[.int .i64 0, .int .i64 0]) := by kernel_rfl
theorem tsz26 : sz Try.prog 26 = some 1 := by kernel_rfl
theorem tby26 : bytesV Try.prog 26 = some 8 := by kernel_rfl
theorem tag26 : aggT Try.prog 26 = some false := by kernel_rfl
theorem tze26 : zeroV Try.prog 26 = some (.pointer none) := by kernel_rfl
theorem tsz28 : sz Try.prog 28 = some 1 := by kernel_rfl
theorem tby28 : bytesV Try.prog 28 = some 24 := by kernel_rfl
theorem tag28 : aggT Try.prog 28 = some false := by kernel_rfl
theorem tze28 : zeroV Try.prog 28 = some (.slice none 0 0) := by kernel_rfl
theorem tsz29 : sz Try.prog 29 = some 1 := by kernel_rfl
theorem tby29 : bytesV Try.prog 29 = some 8 := by kernel_rfl
theorem tag29 : aggT Try.prog 29 = some false := by kernel_rfl
theorem tze29 : zeroV Try.prog 29 = some (.int .i64 0) := by kernel_rfl
theorem tsz31 : sz Try.prog 31 = some 1 := by kernel_rfl
theorem tby31 : bytesV Try.prog 31 = some 8 := by kernel_rfl
theorem tag31 : aggT Try.prog 31 = some false := by kernel_rfl
theorem tze31 : zeroV Try.prog 31 = some (.int .u64 0) := by kernel_rfl
theorem tsz37 : sz Try.prog 37 = some 4 := by kernel_rfl
theorem tby37 : bytesV Try.prog 37 = some 32 := by kernel_rfl
theorem tag37 : aggT Try.prog 37 = some true := by kernel_rfl
theorem tze37 : zeroV Try.prog 37 = some (.agg #[.int .i64 0, .int .i64 0, .int .i64 0, .int .u64 0]) := by kernel_rfl
theorem tsz38 : sz Try.prog 38 = some 1 := by kernel_rfl
theorem tby38 : bytesV Try.prog 38 = some 0 := by kernel_rfl
theorem tag38 : aggT Try.prog 38 = some false := by kernel_rfl
theorem tze38 : zeroV Try.prog 38 = some (.tuple #[.agg #[.int .i64 0, .int .i64 0, .int .i64 0, .int .u64 0], .bool false]) := by kernel_rfl
theorem tsz41 : sz Try.prog 41 = some 1 := by kernel_rfl
theorem tby41 : bytesV Try.prog 41 = some 24 := by kernel_rfl
theorem tag41 : aggT Try.prog 41 = some false := by kernel_rfl
theorem tze41 : zeroV Try.prog 41 = some (.slice none 0 0) := by kernel_rfl
theorem tsz42 : sz Try.prog 42 = some 3 := by kernel_rfl
theorem tby42 : bytesV Try.prog 42 = some 72 := by kernel_rfl
theorem tag42 : aggT Try.prog 42 = some true := by kernel_rfl
theorem tze42 : zeroV Try.prog 42 = some (.agg #[.slice none 0 0, .slice none 0 0, .slice none 0 0]) := by kernel_rfl
theorem tsz43 : sz Try.prog 43 = some 1 := by kernel_rfl
theorem tby43 : bytesV Try.prog 43 = some 8 := by kernel_rfl
theorem tag43 : aggT Try.prog 43 = some false := by kernel_rfl
theorem tze43 : zeroV Try.prog 43 = some (.pointer none) := by kernel_rfl
theorem tsz46 : sz Try.prog 46 = some 7 := by kernel_rfl
theorem tby46 : bytesV Try.prog 46 = some 88 := by kernel_rfl
theorem tag46 : aggT Try.prog 46 = some true := by kernel_rfl
theorem tze46 : zeroV Try.prog 46 = some (.agg #[.int .i64 0, .int .i64 0, .int .i64 0, .int .i64 0, .slice none 0 0, .slice none 0 0, .int .u64 0]) := by kernel_rfl
theorem tsz49 : sz Try.prog 49 = some 1 := by kernel_rfl
theorem tby49 : bytesV Try.prog 49 = some 24 := by kernel_rfl
theorem tag49 : aggT Try.prog 49 = some false := by kernel_rfl
theorem tze49 : zeroV Try.prog 49 = some (.slice none 0 0) := by kernel_rfl
theorem tsz50 : sz Try.prog 50 = some 1 := by kernel_rfl
theorem tby50 : bytesV Try.prog 50 = some 8 := by kernel_rfl
theorem tag50 : aggT Try.prog 50 = some false := by kernel_rfl
theorem tze50 : zeroV Try.prog 50 = some (.pointer none) := by kernel_rfl
theorem tsz53 : sz Try.prog 53 = some 2 := by kernel_rfl
theorem tby53 : bytesV Try.prog 53 = some 16 := by kernel_rfl
theorem tag53 : aggT Try.prog 53 = some true := by kernel_rfl
theorem tze53 : zeroV Try.prog 53 = some (.agg #[.int .i64 0, .int .i64 0]) := by kernel_rfl
theorem tsz54 : sz Try.prog 54 = some 1 := by kernel_rfl
theorem tby54 : bytesV Try.prog 54 = some 24 := by kernel_rfl
theorem tag54 : aggT Try.prog 54 = some false := by kernel_rfl
theorem tze54 : zeroV Try.prog 54 = some (.slice none 0 0) := by kernel_rfl
theorem tsz56 : sz Try.prog 56 = some 2 := by kernel_rfl
theorem tby56 : bytesV Try.prog 56 = some 16 := by kernel_rfl
theorem tag56 : aggT Try.prog 56 = some true := by kernel_rfl
theorem tze56 : zeroV Try.prog 56 = some (.agg #[.int .i64 0, .int .i64 0]) := by kernel_rfl
theorem tsz57 : sz Try.prog 57 = some 1 := by kernel_rfl
theorem tby57 : bytesV Try.prog 57 = some 24 := by kernel_rfl
theorem tag57 : aggT Try.prog 57 = some false := by kernel_rfl
theorem tze57 : zeroV Try.prog 57 = some (.slice none 0 0) := by kernel_rfl
theorem tsz59 : sz Try.prog 59 = some 5 := by kernel_rfl
theorem tby59 : bytesV Try.prog 59 = some 72 := by kernel_rfl
theorem tag59 : aggT Try.prog 59 = some true := by kernel_rfl
theorem tze59 : zeroV Try.prog 59 = some (.agg #[.int .i64 0, .int .i64 0, .bool false, .slice none 0 0, .slice none 0 0]) := by kernel_rfl
theorem tsz60 : sz Try.prog 60 = some 1 := by kernel_rfl
theorem tby60 : bytesV Try.prog 60 = some 0 := by kernel_rfl
theorem tag60 : aggT Try.prog 60 = some false := by kernel_rfl
theorem tze60 : zeroV Try.prog 60 = some (.tuple #[.int .u64 0, .int .i64 0]) := by kernel_rfl
theorem tsz62 : sz Try.prog 62 = some 4 := by kernel_rfl
theorem tby62 : bytesV Try.prog 62 = some 4 := by kernel_rfl
theorem tag62 : aggT Try.prog 62 = some true := by kernel_rfl
theorem tze62 : zeroV Try.prog 62 = some (.agg #[.bool false, .bool false, .bool false, .bool false]) := by kernel_rfl
theorem tsz63 : sz Try.prog 63 = some 1 := by kernel_rfl
theorem tby63 : bytesV Try.prog 63 = some 0 := by kernel_rfl
theorem tag63 : aggT Try.prog 63 = some false := by kernel_rfl
theorem tze63 : zeroV Try.prog 63 = some (.tuple #[.slice none 0 0, .int .i64 0, .bool false, .int .i64 0]) := by kernel_rfl
theorem tsz66 : sz Try.prog 66 = some 1 := by kernel_rfl
theorem tby66 : bytesV Try.prog 66 = some 0 := by kernel_rfl
theorem tag66 : aggT Try.prog 66 = some false := by kernel_rfl
theorem tze66 : zeroV Try.prog 66 = some (.tuple #[.agg #[.int .i64 0, .int .i64 0, .bool false, .slice none 0 0, .slice none 0 0], .slice none 0 0, .int .i64 0, .int .i64 0]) := by kernel_rfl
theorem tsz68 : sz Try.prog 68 = some 1 := by kernel_rfl
theorem tby68 : bytesV Try.prog 68 = some 0 := by kernel_rfl
theorem tag68 : aggT Try.prog 68 = some false := by kernel_rfl
theorem tze68 : zeroV Try.prog 68 = some (.tuple #[.agg #[.int .i64 0, .int .i64 0, .bool false, .slice none 0 0, .slice none 0 0], .slice none 0 0, .int .i64 0]) := by kernel_rfl
theorem tsz71 : sz Try.prog 71 = some 1 := by kernel_rfl
theorem tby71 : bytesV Try.prog 71 = some 0 := by kernel_rfl
theorem tag71 : aggT Try.prog 71 = some false := by kernel_rfl
theorem tze71 : zeroV Try.prog 71 = some (.tuple #[.int .i64 0, .int .i64 0, .bool false]) := by kernel_rfl
theorem tsz75 : sz Try.prog 75 = some 1 := by kernel_rfl
theorem tby75 : bytesV Try.prog 75 = some 24 := by kernel_rfl
theorem tag75 : aggT Try.prog 75 = some false := by kernel_rfl
theorem tze75 : zeroV Try.prog 75 = some (.slice none 0 0) := by kernel_rfl
theorem tsz77 : sz Try.prog 77 = some 4 := by kernel_rfl
theorem tby77 : bytesV Try.prog 77 = some 4 := by kernel_rfl
theorem tag77 : aggT Try.prog 77 = some true := by kernel_rfl
theorem tze77 : zeroV Try.prog 77 = some (.agg #[.int .u8 0, .int .u8 0, .int .u8 0, .int .u8 0]) := by kernel_rfl
theorem tsz78 : sz Try.prog 78 = some 1 := by kernel_rfl
theorem tby78 : bytesV Try.prog 78 = some 0 := by kernel_rfl
theorem tag78 : aggT Try.prog 78 = some false := by kernel_rfl
theorem tze78 : zeroV Try.prog 78 = some (.tuple #[.agg #[.int .i64 0, .int .i64 0, .bool false, .slice none 0 0, .slice none 0 0], .slice none 0 0, .bool false]) := by kernel_rfl
theorem tsz81 : sz Try.prog 81 = some 1 := by kernel_rfl
theorem tby81 : bytesV Try.prog 81 = some 24 := by kernel_rfl
theorem tag81 : aggT Try.prog 81 = some false := by kernel_rfl
theorem tze81 : zeroV Try.prog 81 = some (.slice none 0 0) := by kernel_rfl
theorem tsz82 : sz Try.prog 82 = some 1 := by kernel_rfl
theorem tby82 : bytesV Try.prog 82 = some 8 := by kernel_rfl
theorem tag82 : aggT Try.prog 82 = some false := by kernel_rfl
theorem tze82 : zeroV Try.prog 82 = some (.pointer none) := by kernel_rfl
theorem tsz85 : sz Try.prog 85 = some 12 := by kernel_rfl
theorem tby85 : bytesV Try.prog 85 = some 160 := by kernel_rfl
theorem tag85 : aggT Try.prog 85 = some true := by kernel_rfl
theorem tze85 : zeroV Try.prog 85 = some (.agg #[.int .i64 0, .int .i64 0, .int .i64 0, .int .i64 0, .int .i64 0, .slice none 0 0, .int .i64 0, .int .i64 0, .bool false, .slice none 0 0, .slice none 0 0, .slice none 0 0]) := by kernel_rfl
theorem tsz87 : sz Try.prog 87 = some 6 := by kernel_rfl
theorem tby87 : bytesV Try.prog 87 = some 48 := by kernel_rfl
theorem tag87 : aggT Try.prog 87 = some true := by kernel_rfl
theorem tze87 : zeroV Try.prog 87 = some (.agg #[.int .u64 0, .int .u64 0, .int .u64 0, .int .u64 0, .int .u64 0, .int .u64 0]) := by kernel_rfl
theorem tsz89 : sz Try.prog 89 = some 7 := by kernel_rfl
theorem tby89 : bytesV Try.prog 89 = some 72 := by kernel_rfl
theorem tag89 : aggT Try.prog 89 = some true := by kernel_rfl
theorem tze89 : zeroV Try.prog 89 = some (.agg #[.int .u64 0, .int .u64 0, .int .u64 0, .int .u64 0, .int .u64 0, .int .u64 0, .slice none 0 0]) := by kernel_rfl
theorem tsz90 : sz Try.prog 90 = some 1 := by kernel_rfl
theorem tby90 : bytesV Try.prog 90 = some 8 := by kernel_rfl
theorem tag90 : aggT Try.prog 90 = some false := by kernel_rfl
theorem tze90 : zeroV Try.prog 90 = some (.map none) := by kernel_rfl
theorem tsz91 : sz Try.prog 91 = some 1 := by kernel_rfl
theorem tby91 : bytesV Try.prog 91 = some 8 := by kernel_rfl
theorem tag91 : aggT Try.prog 91 = some false := by kernel_rfl
theorem tze91 : zeroV Try.prog 91 = some (.map none) := by kernel_rfl
theorem tsz93 : sz Try.prog 93 = some 9 := by kernel_rfl
theorem tby93 : bytesV Try.prog 93 = some 88 := by kernel_rfl
theorem tag93 : aggT Try.prog 93 = some true := by kernel_rfl
theorem tze93 : zeroV Try.prog 93 = some (.agg #[.int .u64 0, .int .u64 0, .int .u64 0, .int .u64 0, .int .u64 0, .int .u64 0, .slice none 0 0, .map none, .map none]) := by kernel_rfl
theorem tsz96 : sz Try.prog 96 = some 1 := by kernel_rfl
theorem tby96 : bytesV Try.prog 96 = some 24 := by kernel_rfl
theorem tag96 : aggT Try.prog 96 = some false := by kernel_rfl
theorem tze96 : zeroV Try.prog 96 = some (.slice none 0 0) := by kernel_rfl
theorem tsz97 : sz Try.prog 97 = some 1 := by kernel_rfl
theorem tby97 : bytesV Try.prog 97 = some 8 := by kernel_rfl
theorem tag97 : aggT Try.prog 97 = some false := by kernel_rfl
theorem tze97 : zeroV Try.prog 97 = some (.pointer none) := by kernel_rfl
theorem tsz99 : sz Try.prog 99 = some 1 := by kernel_rfl
theorem tby99 : bytesV Try.prog 99 = some 8 := by kernel_rfl
theorem tag99 : aggT Try.prog 99 = some false := by kernel_rfl
theorem tze99 : zeroV Try.prog 99 = some (.pointer none) := by kernel_rfl
theorem tsz101 : sz Try.prog 101 = some 1 := by kernel_rfl
theorem tby101 : bytesV Try.prog 101 = some 8 := by kernel_rfl
theorem tag101 : aggT Try.prog 101 = some false := by kernel_rfl
theorem tze101 : zeroV Try.prog 101 = some (.pointer none) := by kernel_rfl
theorem tsz102 : sz Try.prog 102 = some 1 := by kernel_rfl
theorem tby102 : bytesV Try.prog 102 = some 0 := by kernel_rfl
theorem tag102 : aggT Try.prog 102 = some false := by kernel_rfl
theorem tze102 : zeroV Try.prog 102 = some (.tuple #[.pointer none, .bool false]) := by kernel_rfl
theorem tsz104 : sz Try.prog 104 = some 1 := by kernel_rfl
theorem tby104 : bytesV Try.prog 104 = some 8 := by kernel_rfl
theorem tag104 : aggT Try.prog 104 = some false := by kernel_rfl
theorem tze104 : zeroV Try.prog 104 = some (.pointer none) := by kernel_rfl
theorem tsz107 : sz Try.prog 107 = some 5 := by kernel_rfl
theorem tby107 : bytesV Try.prog 107 = some 40 := by kernel_rfl
theorem tag107 : aggT Try.prog 107 = some true := by kernel_rfl
theorem tze107 : zeroV Try.prog 107 = some (.agg #[.int .i64 0, .int .i64 0, .int .i64 0, .int .i64 0, .int .i64 0]) := by kernel_rfl
theorem tsz114 : sz Try.prog 114 = some 1 := by kernel_rfl
theorem tby114 : bytesV Try.prog 114 = some 0 := by kernel_rfl
theorem tag114 : aggT Try.prog 114 = some false := by kernel_rfl
theorem tze114 : zeroV Try.prog 114 = some (.tuple #[.agg #[.int .i64 0, .int .i64 0], .int .i64 0, .int .i64 0]) := by kernel_rfl
theorem tsz118 : sz Try.prog 118 = some 1 := by kernel_rfl
theorem tby118 : bytesV Try.prog 118 = some 0 := by kernel_rfl
theorem tag118 : aggT Try.prog 118 = some false := by kernel_rfl
theorem tze118 : zeroV Try.prog 118 = some (.tuple #[.agg #[.int .i64 0, .int .i64 0], .bool false]) := by kernel_rfl
theorem tsz123 : sz Try.prog 123 = some 1 := by kernel_rfl
theorem tby123 : bytesV Try.prog 123 = some 0 := by kernel_rfl
theorem tag123 : aggT Try.prog 123 = some false := by kernel_rfl
theorem tze123 : zeroV Try.prog 123 = some (.tuple #[.slice none 0 0, .int .i64 0]) := by kernel_rfl
theorem tsz126 : sz Try.prog 126 = some 1 := by kernel_rfl
theorem tby126 : bytesV Try.prog 126 = some 24 := by kernel_rfl
theorem tag126 : aggT Try.prog 126 = some false := by kernel_rfl
theorem tze126 : zeroV Try.prog 126 = some (.slice none 0 0) := by kernel_rfl
theorem tsz127 : sz Try.prog 127 = some 1 := by kernel_rfl
theorem tby127 : bytesV Try.prog 127 = some 24 := by kernel_rfl
theorem tag127 : aggT Try.prog 127 = some false := by kernel_rfl
theorem tze127 : zeroV Try.prog 127 = some (.slice none 0 0) := by kernel_rfl
theorem tsz129 : sz Try.prog 129 = some 1 := by kernel_rfl
theorem tby129 : bytesV Try.prog 129 = some 24 := by kernel_rfl
theorem tag129 : aggT Try.prog 129 = some true := by kernel_rfl
theorem tze129 : zeroV Try.prog 129 = some (.agg #[.slice none 0 0]) := by kernel_rfl
theorem tsz130 : sz Try.prog 130 = some 1 := by kernel_rfl
theorem tby130 : bytesV Try.prog 130 = some 8 := by kernel_rfl
theorem tag130 : aggT Try.prog 130 = some false := by kernel_rfl
theorem tze130 : zeroV Try.prog 130 = some (.map none) := by kernel_rfl
theorem tsz132 : sz Try.prog 132 = some 1 := by kernel_rfl
theorem tby132 : bytesV Try.prog 132 = some 8 := by kernel_rfl
theorem tag132 : aggT Try.prog 132 = some false := by kernel_rfl
theorem tze132 : zeroV Try.prog 132 = some (.map none) := by kernel_rfl
theorem tsz134 : sz Try.prog 134 = some 1 := by kernel_rfl
theorem tby134 : bytesV Try.prog 134 = some 8 := by kernel_rfl
theorem tag134 : aggT Try.prog 134 = some false := by kernel_rfl
theorem tze134 : zeroV Try.prog 134 = some (.nilFunc) := by kernel_rfl
theorem tsz137 : sz Try.prog 137 = some 1 := by kernel_rfl
theorem tby137 : bytesV Try.prog 137 = some 24 := by kernel_rfl
theorem tag137 : aggT Try.prog 137 = some true := by kernel_rfl
theorem tze137 : zeroV Try.prog 137 = some (.agg #[.slice none 0 0]) := by kernel_rfl
theorem tsz138 : sz Try.prog 138 = some 1 := by kernel_rfl
theorem tby138 : bytesV Try.prog 138 = some 8 := by kernel_rfl
theorem tag138 : aggT Try.prog 138 = some false := by kernel_rfl
theorem tze138 : zeroV Try.prog 138 = some (.nilFunc) := by kernel_rfl
theorem tsz142 : sz Try.prog 142 = some 1 := by kernel_rfl
theorem tby142 : bytesV Try.prog 142 = some 8 := by kernel_rfl
theorem tag142 : aggT Try.prog 142 = some false := by kernel_rfl
theorem tze142 : zeroV Try.prog 142 = some (.pointer none) := by kernel_rfl
theorem tsz144 : sz Try.prog 144 = some 1 := by kernel_rfl
theorem tby144 : bytesV Try.prog 144 = some 8 := by kernel_rfl
theorem tag144 : aggT Try.prog 144 = some false := by kernel_rfl
theorem tze144 : zeroV Try.prog 144 = some (.map none) := by kernel_rfl
theorem tsz146 : sz Try.prog 146 = some 3 := by kernel_rfl
theorem tby146 : bytesV Try.prog 146 = some 24 := by kernel_rfl
theorem tag146 : aggT Try.prog 146 = some true := by kernel_rfl
theorem tze146 : zeroV Try.prog 146 = some (.agg #[.pointer none, .map none, .map none]) := by kernel_rfl
theorem tsz147 : sz Try.prog 147 = some 1 := by kernel_rfl
theorem tby147 : bytesV Try.prog 147 = some 8 := by kernel_rfl
theorem tag147 : aggT Try.prog 147 = some false := by kernel_rfl
theorem tze147 : zeroV Try.prog 147 = some (.pointer none) := by kernel_rfl
theorem tsz148 : sz Try.prog 148 = some 1 := by kernel_rfl
theorem tby148 : bytesV Try.prog 148 = some 0 := by kernel_rfl
theorem tag148 : aggT Try.prog 148 = some false := by kernel_rfl
theorem tze148 : zeroV Try.prog 148 = some (.tuple #[.pointer none, .bool false]) := by kernel_rfl
theorem tsz151 : sz Try.prog 151 = some 1 := by kernel_rfl
theorem tby151 : bytesV Try.prog 151 = some 8 := by kernel_rfl
theorem tag151 : aggT Try.prog 151 = some false := by kernel_rfl
theorem tze151 : zeroV Try.prog 151 = some (.pointer none) := by kernel_rfl
theorem tsz153 : sz Try.prog 153 = some 11 := by kernel_rfl
theorem tby153 : bytesV Try.prog 153 = some 136 := by kernel_rfl
theorem tag153 : aggT Try.prog 153 = some true := by kernel_rfl
theorem tze153 : zeroV Try.prog 153 = some (.agg #[.int .i64 0, .int .i64 0, .pointer none, .bool false, .int .i64 0, .int .i64 0, .bool false, .slice none 0 0, .slice none 0 0, .slice none 0 0, .map none]) := by kernel_rfl
theorem tsz156 : sz Try.prog 156 = some 1 := by kernel_rfl
theorem tby156 : bytesV Try.prog 156 = some 0 := by kernel_rfl
theorem tag156 : aggT Try.prog 156 = some false := by kernel_rfl
theorem tze156 : zeroV Try.prog 156 = some (.tuple #[.bool false, .int .i64 0]) := by kernel_rfl
theorem tsz161 : sz Try.prog 161 = some 1 := by kernel_rfl
theorem tby161 : bytesV Try.prog 161 = some 0 := by kernel_rfl
theorem tag161 : aggT Try.prog 161 = some false := by kernel_rfl
theorem tze161 : zeroV Try.prog 161 = some (.tuple #[.agg #[.int .i64 0, .int .i64 0, .bool false, .slice none 0 0, .slice none 0 0], .slice none 0 0]) := by kernel_rfl
theorem tsz166 : sz Try.prog 166 = some 1 := by kernel_rfl
theorem tby166 : bytesV Try.prog 166 = some 8 := by kernel_rfl
theorem tag166 : aggT Try.prog 166 = some false := by kernel_rfl
theorem tze166 : zeroV Try.prog 166 = some (.nilFunc) := by kernel_rfl
theorem tsz167 : sz Try.prog 167 = some 1 := by kernel_rfl
theorem tby167 : bytesV Try.prog 167 = some 8 := by kernel_rfl
theorem tag167 : aggT Try.prog 167 = some false := by kernel_rfl
theorem tze167 : zeroV Try.prog 167 = some (.nilFunc) := by kernel_rfl
theorem tsz169 : sz Try.prog 169 = some 1 := by kernel_rfl
theorem tby169 : bytesV Try.prog 169 = some 8 := by kernel_rfl
theorem tag169 : aggT Try.prog 169 = some false := by kernel_rfl
theorem tze169 : zeroV Try.prog 169 = some (.pointer none) := by kernel_rfl
theorem tsz170 : sz Try.prog 170 = some 1 := by kernel_rfl
theorem tby170 : bytesV Try.prog 170 = some 0 := by kernel_rfl
theorem tag170 : aggT Try.prog 170 = some false := by kernel_rfl
theorem tze170 : zeroV Try.prog 170 = some (.tuple #[.pointer none, .bool false]) := by kernel_rfl
theorem tsz172 : sz Try.prog 172 = some 1 := by kernel_rfl
theorem tby172 : bytesV Try.prog 172 = some 8 := by kernel_rfl
theorem tag172 : aggT Try.prog 172 = some false := by kernel_rfl
theorem tze172 : zeroV Try.prog 172 = some (.pointer none) := by kernel_rfl
theorem tsz174 : sz Try.prog 174 = some 11 := by kernel_rfl
theorem tby174 : bytesV Try.prog 174 = some 152 := by kernel_rfl
theorem tag174 : aggT Try.prog 174 = some true := by kernel_rfl
theorem tze174 : zeroV Try.prog 174 = some (.agg #[.int .i64 0, .int .i64 0, .pointer none, .bool false, .int .i64 0, .int .i64 0, .bool false, .slice none 0 0, .slice none 0 0, .slice none 0 0, .slice none 0 0]) := by kernel_rfl
theorem tsz176 : sz Try.prog 176 = some 2 := by kernel_rfl
theorem tby176 : bytesV Try.prog 176 = some 32 := by kernel_rfl
theorem tag176 : aggT Try.prog 176 = some true := by kernel_rfl
theorem tze176 : zeroV Try.prog 176 = some (.agg #[.int .i64 0, .slice none 0 0]) := by kernel_rfl
theorem tsz179 : sz Try.prog 179 = some 1 := by kernel_rfl
theorem tby179 : bytesV Try.prog 179 = some 24 := by kernel_rfl
theorem tag179 : aggT Try.prog 179 = some false := by kernel_rfl
theorem tze179 : zeroV Try.prog 179 = some (.slice none 0 0) := by kernel_rfl
theorem tsz181 : sz Try.prog 181 = some 2 := by kernel_rfl
theorem tby181 : bytesV Try.prog 181 = some 32 := by kernel_rfl
theorem tag181 : aggT Try.prog 181 = some true := by kernel_rfl
theorem tze181 : zeroV Try.prog 181 = some (.agg #[.slice none 0 0, .int .i64 0]) := by kernel_rfl
theorem tsz182 : sz Try.prog 182 = some 1 := by kernel_rfl
theorem tby182 : bytesV Try.prog 182 = some 24 := by kernel_rfl
theorem tag182 : aggT Try.prog 182 = some false := by kernel_rfl
theorem tze182 : zeroV Try.prog 182 = some (.slice none 0 0) := by kernel_rfl
theorem tsz184 : sz Try.prog 184 = some 2 := by kernel_rfl
theorem tby184 : bytesV Try.prog 184 = some 32 := by kernel_rfl
theorem tag184 : aggT Try.prog 184 = some true := by kernel_rfl
theorem tze184 : zeroV Try.prog 184 = some (.agg #[.int .i64 0, .slice none 0 0]) := by kernel_rfl
theorem tsz185 : sz Try.prog 185 = some 1 := by kernel_rfl
theorem tby185 : bytesV Try.prog 185 = some 0 := by kernel_rfl
theorem tag185 : aggT Try.prog 185 = some false := by kernel_rfl
theorem tze185 : zeroV Try.prog 185 = some (.tuple #[.int .i64 0, .bool false]) := by kernel_rfl
theorem tsz187 : sz Try.prog 187 = some 1 := by kernel_rfl
theorem tby187 : bytesV Try.prog 187 = some 8 := by kernel_rfl
theorem tag187 : aggT Try.prog 187 = some false := by kernel_rfl
theorem tze187 : zeroV Try.prog 187 = some (.map none) := by kernel_rfl
theorem tsz188 : sz Try.prog 188 = some 1 := by kernel_rfl
theorem tby188 : bytesV Try.prog 188 = some 8 := by kernel_rfl
theorem tag188 : aggT Try.prog 188 = some false := by kernel_rfl
theorem tze188 : zeroV Try.prog 188 = some (.map none) := by kernel_rfl
theorem tsz190 : sz Try.prog 190 = some 6 := by kernel_rfl
theorem tby190 : bytesV Try.prog 190 = some 48 := by kernel_rfl
theorem tag190 : aggT Try.prog 190 = some true := by kernel_rfl
theorem tze190 : zeroV Try.prog 190 = some (.agg #[.pointer none, .pointer none, .int .i64 0, .map none, .map none, .map none]) := by kernel_rfl
theorem tsz192 : sz Try.prog 192 = some 2 := by kernel_rfl
theorem tby192 : bytesV Try.prog 192 = some 16 := by kernel_rfl
theorem tag192 : aggT Try.prog 192 = some true := by kernel_rfl
theorem tze192 : zeroV Try.prog 192 = some (.agg #[.map none, .int .i64 0]) := by kernel_rfl
theorem tsz197 : sz Try.prog 197 = some 1 := by kernel_rfl
theorem tby197 : bytesV Try.prog 197 = some 0 := by kernel_rfl
theorem tag197 : aggT Try.prog 197 = some false := by kernel_rfl
theorem tze197 : zeroV Try.prog 197 = some (.tuple #[.slice none 0 0, .slice none 0 0]) := by kernel_rfl
theorem tsz199 : sz Try.prog 199 = some 1 := by kernel_rfl
theorem tby199 : bytesV Try.prog 199 = some 0 := by kernel_rfl
theorem tag199 : aggT Try.prog 199 = some false := by kernel_rfl
theorem tze199 : zeroV Try.prog 199 = some (.tuple #[.int .i64 0, .int .i64 0, .int .i64 0, .bool false]) := by kernel_rfl
theorem tsz201 : sz Try.prog 201 = some 1 := by kernel_rfl
theorem tby201 : bytesV Try.prog 201 = some 24 := by kernel_rfl
theorem tag201 : aggT Try.prog 201 = some false := by kernel_rfl
theorem tze201 : zeroV Try.prog 201 = some (.slice none 0 0) := by kernel_rfl
theorem tsz204 : sz Try.prog 204 = some 3 := by kernel_rfl
theorem tby204 : bytesV Try.prog 204 = some 24 := by kernel_rfl
theorem tag204 : aggT Try.prog 204 = some true := by kernel_rfl
theorem tze204 : zeroV Try.prog 204 = some (.agg #[.int .i64 0, .int .i64 0, .int .i64 0]) := by kernel_rfl
theorem tsz205 : sz Try.prog 205 = some 1 := by kernel_rfl
theorem tby205 : bytesV Try.prog 205 = some 0 := by kernel_rfl
theorem tag205 : aggT Try.prog 205 = some false := by kernel_rfl
theorem tze205 : zeroV Try.prog 205 = some (.tuple #[.agg #[.int .i64 0, .int .i64 0, .int .i64 0], .bool false]) := by kernel_rfl
theorem tsz209 : sz Try.prog 209 = some 1 := by kernel_rfl
theorem tby209 : bytesV Try.prog 209 = some 8 := by kernel_rfl
theorem tag209 : aggT Try.prog 209 = some false := by kernel_rfl
theorem tze209 : zeroV Try.prog 209 = some (.map none) := by kernel_rfl
theorem tsz211 : sz Try.prog 211 = some 7 := by kernel_rfl
theorem tby211 : bytesV Try.prog 211 = some 56 := by kernel_rfl
theorem tag211 : aggT Try.prog 211 = some true := by kernel_rfl
theorem tze211 : zeroV Try.prog 211 = some (.agg #[.int .u64 0, .int .u64 0, .int .u64 0, .int .u64 0, .int .u64 0, .int .u64 0, .map none]) := by kernel_rfl
theorem tsz213 : sz Try.prog 213 = some 2 := by kernel_rfl
theorem tby213 : bytesV Try.prog 213 = some 32 := by kernel_rfl
theorem tag213 : aggT Try.prog 213 = some true := by kernel_rfl
theorem tze213 : zeroV Try.prog 213 = some (.agg #[.slice none 0 0, .int .i64 0]) := by kernel_rfl
theorem tsz215 : sz Try.prog 215 = some 1 := by kernel_rfl
theorem tby215 : bytesV Try.prog 215 = some 8 := by kernel_rfl
theorem tag215 : aggT Try.prog 215 = some false := by kernel_rfl
theorem tze215 : zeroV Try.prog 215 = some (.int .u64 0) := by kernel_rfl
theorem tsz218 : sz Try.prog 218 = some 1 := by kernel_rfl
theorem tby218 : bytesV Try.prog 218 = some 8 := by kernel_rfl
theorem tag218 : aggT Try.prog 218 = some false := by kernel_rfl
theorem tze218 : zeroV Try.prog 218 = some (.pointer none) := by kernel_rfl
theorem tsz220 : sz Try.prog 220 = some 1 := by kernel_rfl
theorem tby220 : bytesV Try.prog 220 = some 8 := by kernel_rfl
theorem tag220 : aggT Try.prog 220 = some false := by kernel_rfl
theorem tze220 : zeroV Try.prog 220 = some (.nilFunc) := by kernel_rfl
theorem tsz225 : sz Try.prog 225 = some 1 := by kernel_rfl
theorem tby225 : bytesV Try.prog 225 = some 0 := by kernel_rfl
theorem tag225 : aggT Try.prog 225 = some false := by kernel_rfl
theorem tze225 : zeroV Try.prog 225 = some (.tuple #[.bool false, .bool false]) := by kernel_rfl
theorem tsz231 : sz Try.prog 231 = some 1 := by kernel_rfl
theorem tby231 : bytesV Try.prog 231 = some 0 := by kernel_rfl
theorem tag231 : aggT Try.prog 231 = some false := by kernel_rfl
theorem tze231 : zeroV Try.prog 231 = some (.tuple #[.agg #[.int .i64 0, .int .i64 0, .int .i64 0], .int .i64 0]) := by kernel_rfl
theorem tsz233 : sz Try.prog 233 = some 128 := by kernel_rfl
theorem tby233 : bytesV Try.prog 233 = some 128 := by kernel_rfl
theorem tag233 : aggT Try.prog 233 = some true := by kernel_rfl
theorem mixed : Try.prog.follows .mixedOrders = true := by kernel_rfl
attribute [simp] tsz0 tby0 tag0 tze0 tsz3 tby3 tag3 tze3 tsz4 tby4 tag4 tze4 tsz5 tby5 tag5 tze5 tsz9 tby9 tag9 tze9 tsz23 tby23 tag23 tze23 tsz25 tby25 tag25 tze25 tsz26 tby26 tag26 tze26 tsz28 tby28 tag28 tze28 tsz29 tby29 tag29 tze29
attribute [simp] tsz31 tby31 tag31 tze31 tsz37 tby37 tag37 tze37 tsz38 tby38 tag38 tze38 tsz41 tby41 tag41 tze41 tsz42 tby42 tag42 tze42 tsz43 tby43 tag43 tze43 tsz46 tby46 tag46 tze46 tsz49 tby49 tag49 tze49 tsz50 tby50 tag50 tze50 tsz53 tby53 tag53 tze53
attribute [simp] tsz54 tby54 tag54 tze54 tsz56 tby56 tag56 tze56 tsz57 tby57 tag57 tze57 tsz59 tby59 tag59 tze59 tsz60 tby60 tag60 tze60 tsz62 tby62 tag62 tze62 tsz63 tby63 tag63 tze63 tsz66 tby66 tag66 tze66 tsz68 tby68 tag68 tze68 tsz71 tby71 tag71 tze71
attribute [simp] tsz75 tby75 tag75 tze75 tsz77 tby77 tag77 tze77 tsz78 tby78 tag78 tze78 tsz81 tby81 tag81 tze81 tsz82 tby82 tag82 tze82 tsz85 tby85 tag85 tze85 tsz87 tby87 tag87 tze87 tsz89 tby89 tag89 tze89 tsz90 tby90 tag90 tze90 tsz91 tby91 tag91 tze91
attribute [simp] tsz93 tby93 tag93 tze93 tsz96 tby96 tag96 tze96 tsz97 tby97 tag97 tze97 tsz99 tby99 tag99 tze99 tsz101 tby101 tag101 tze101 tsz102 tby102 tag102 tze102 tsz104 tby104 tag104 tze104 tsz107 tby107 tag107 tze107 tsz114 tby114 tag114 tze114 tsz118 tby118 tag118 tze118
attribute [simp] tsz123 tby123 tag123 tze123 tsz126 tby126 tag126 tze126 tsz127 tby127 tag127 tze127 tsz129 tby129 tag129 tze129 tsz130 tby130 tag130 tze130 tsz132 tby132 tag132 tze132 tsz134 tby134 tag134 tze134 tsz137 tby137 tag137 tze137 tsz138 tby138 tag138 tze138 tsz142 tby142 tag142 tze142
attribute [simp] tsz144 tby144 tag144 tze144 tsz146 tby146 tag146 tze146 tsz147 tby147 tag147 tze147 tsz148 tby148 tag148 tze148 tsz151 tby151 tag151 tze151 tsz153 tby153 tag153 tze153 tsz156 tby156 tag156 tze156 tsz161 tby161 tag161 tze161 tsz166 tby166 tag166 tze166 tsz167 tby167 tag167 tze167
attribute [simp] tsz169 tby169 tag169 tze169 tsz170 tby170 tag170 tze170 tsz172 tby172 tag172 tze172 tsz174 tby174 tag174 tze174 tsz176 tby176 tag176 tze176 tsz179 tby179 tag179 tze179 tsz181 tby181 tag181 tze181 tsz182 tby182 tag182 tze182 tsz184 tby184 tag184 tze184 tsz185 tby185 tag185 tze185
attribute [simp] tsz187 tby187 tag187 tze187 tsz188 tby188 tag188 tze188 tsz190 tby190 tag190 tze190 tsz192 tby192 tag192 tze192 tsz197 tby197 tag197 tze197 tsz199 tby199 tag199 tze199 tsz201 tby201 tag201 tze201 tsz204 tby204 tag204 tze204 tsz205 tby205 tag205 tze205 tsz209 tby209 tag209 tze209
attribute [simp] tsz211 tby211 tag211 tze211 tsz213 tby213 tag213 tze213 tsz215 tby215 tag215 tze215 tsz218 tby218 tag218 tze218 tsz220 tby220 tag220 tze220 tsz225 tby225 tag225 tze225 tsz231 tby231 tag231 tze231 tsz233 tby233 tag233
attribute [simp] Try.underlying0 Try.underlying1 Try.underlying2 Try.underlying3 Try.underlying4 Try.underlying5 Try.underlying6 Try.underlying7 Try.underlying8 Try.underlying9 Try.underlying10 Try.underlying11 Try.underlying12 Try.underlying13 Try.underlying14 Try.underlying15 Try.underlying16 Try.underlying17 Try.underlying18 Try.underlying19 Try.underlying20 Try.underlying21 Try.underlying22 Try.underlying23 Try.underlying24 Try.underlying25 Try.underlying26 Try.underlying27 Try.underlying28 Try.underlying29 Try.underlying30 Try.underlying31 Try.underlying32 Try.underlying33 Try.underlying34 Try.underlying35 Try.underlying36 Try.underlying37 Try.underlying38 Try.underlying39
attribute [simp] Try.underlying40 Try.underlying41 Try.underlying42 Try.underlying43 Try.underlying44 Try.underlying45 Try.underlying46 Try.underlying47 Try.underlying48 Try.underlying49 Try.underlying50 Try.underlying51 Try.underlying52 Try.underlying53 Try.underlying54 Try.underlying55 Try.underlying56 Try.underlying57 Try.underlying58 Try.underlying59 Try.underlying60 Try.underlying61 Try.underlying62 Try.underlying63 Try.underlying64 Try.underlying65 Try.underlying66 Try.underlying67 Try.underlying68 Try.underlying69 Try.underlying70 Try.underlying71 Try.underlying72 Try.underlying73 Try.underlying74 Try.underlying75 Try.underlying76 Try.underlying77 Try.underlying78 Try.underlying79
attribute [simp] Try.underlying80 Try.underlying81 Try.underlying82 Try.underlying83 Try.underlying84 Try.underlying85 Try.underlying86 Try.underlying87 Try.underlying88 Try.underlying89 Try.underlying90 Try.underlying91 Try.underlying92 Try.underlying93 Try.underlying94 Try.underlying95 Try.underlying96 Try.underlying97 Try.underlying98 Try.underlying99 Try.underlying100 Try.underlying101 Try.underlying102 Try.underlying103 Try.underlying104 Try.underlying105 Try.underlying106 Try.underlying107 Try.underlying108 Try.underlying109 Try.underlying110 Try.underlying111 Try.underlying112 Try.underlying113 Try.underlying114 Try.underlying115 Try.underlying116 Try.underlying117 Try.underlying118 Try.underlying119
attribute [simp] Try.underlying120 Try.underlying121 Try.underlying122 Try.underlying123 Try.underlying124 Try.underlying125 Try.underlying126 Try.underlying127 Try.underlying128 Try.underlying129 Try.underlying130 Try.underlying131 Try.underlying132 Try.underlying133 Try.underlying134 Try.underlying135 Try.underlying136 Try.underlying137 Try.underlying138 Try.underlying139 Try.underlying140 Try.underlying141 Try.underlying142 Try.underlying143 Try.underlying144 Try.underlying145 Try.underlying146 Try.underlying147 Try.underlying148 Try.underlying149 Try.underlying150 Try.underlying151 Try.underlying152 Try.underlying153 Try.underlying154 Try.underlying155 Try.underlying156 Try.underlying157 Try.underlying158 Try.underlying159
attribute [simp] Try.underlying160 Try.underlying161 Try.underlying162 Try.underlying163 Try.underlying164 Try.underlying165 Try.underlying166 Try.underlying167 Try.underlying168 Try.underlying169 Try.underlying170 Try.underlying171 Try.underlying172 Try.underlying173 Try.underlying174 Try.underlying175 Try.underlying176 Try.underlying177 Try.underlying178 Try.underlying179 Try.underlying180 Try.underlying181 Try.underlying182 Try.underlying183 Try.underlying184 Try.underlying185 Try.underlying186 Try.underlying187 Try.underlying188 Try.underlying189 Try.underlying190 Try.underlying191 Try.underlying192 Try.underlying193 Try.underlying194 Try.underlying195 Try.underlying196 Try.underlying197 Try.underlying198 Try.underlying199
attribute [simp] Try.underlying200 Try.underlying201 Try.underlying202 Try.underlying203 Try.underlying204 Try.underlying205 Try.underlying206 Try.underlying207 Try.underlying208 Try.underlying209 Try.underlying210 Try.underlying211 Try.underlying212 Try.underlying213 Try.underlying214 Try.underlying215 Try.underlying216 Try.underlying217 Try.underlying218 Try.underlying219 Try.underlying220 Try.underlying221 Try.underlying222 Try.underlying223 Try.underlying224 Try.underlying225 Try.underlying226 Try.underlying227 Try.underlying228 Try.underlying229 Try.underlying230 Try.underlying231 Try.underlying232 Try.underlying233 Try.underlying234 Try.underlying235 Try.underlying236 Try.underlying237 Try.underlying238 Try.underlying239
attribute [simp] Try.underlying240 Try.underlying241 Try.underlying242 Try.underlying243 Try.underlying244 Try.underlying245 Try.underlying246 Try.underlying247 Try.underlying248 Try.underlying249 Try.underlying250 Try.underlying251 Try.underlying252 Try.underlying253 Try.underlying254 Try.underlying255 Try.underlying256 Try.underlying257 Try.underlying258 Try.underlying259 Try.underlying260 Try.underlying261 Try.underlying262 Try.underlying263 Try.underlying264 Try.underlying265 Try.underlying266 Try.underlying267 Try.underlying268 Try.underlying269 Try.underlying270 Try.underlying271 Try.underlying272 Try.underlying273 Try.underlying274 Try.underlying275 Try.underlying276 Try.underlying277 Try.underlying278 Try.underlying279
attribute [simp] Try.underlying280 Try.underlying281 Try.underlying282 Try.underlying283 Try.underlying284
attribute [simp] Try.ntmps2 Try.ntmps3 Try.ntmps4 Try.ntmps5 Try.ntmps6 Try.ntmps7 Try.ntmps8 Try.ntmps9 Try.ntmps10 Try.ntmps11 Try.ntmps12 Try.ntmps13 Try.ntmps14 Try.ntmps15 Try.ntmps16 Try.ntmps17 Try.ntmps18 Try.ntmps19 Try.ntmps20 Try.ntmps21 Try.ntmps22 Try.ntmps23 Try.ntmps24 Try.ntmps25 Try.ntmps26 Try.ntmps27 Try.ntmps28 Try.ntmps29 Try.ntmps30 Try.ntmps31 Try.ntmps32 Try.ntmps33 Try.ntmps34 Try.ntmps35 Try.ntmps36 Try.ntmps37 Try.ntmps38 Try.ntmps39 Try.ntmps40 Try.ntmps41
attribute [simp] Try.ntmps42 Try.ntmps43 Try.ntmps44 Try.ntmps45 Try.ntmps46 Try.ntmps47 Try.ntmps48 Try.ntmps49 Try.ntmps50 Try.ntmps51 Try.ntmps52 Try.ntmps53 Try.ntmps54 Try.ntmps55 Try.ntmps56 Try.ntmps57 Try.ntmps58 Try.ntmps59 Try.ntmps60 Try.ntmps61 Try.ntmps62 Try.ntmps63 Try.ntmps64 Try.ntmps65 Try.ntmps66 Try.ntmps67 Try.ntmps68 Try.ntmps69 Try.ntmps70 Try.ntmps71 Try.ntmps72 Try.ntmps73 Try.ntmps74 Try.ntmps75 Try.ntmps76 Try.ntmps77 Try.ntmps78 Try.ntmps79 Try.ntmps80 Try.ntmps81
attribute [simp] Try.ntmps82 Try.ntmps83 Try.ntmps84 Try.ntmps85 Try.ntmps86 Try.ntmps87 Try.ntmps88 Try.ntmps89 Try.ntmps90 Try.ntmps91 Try.ntmps92 Try.ntmps93 Try.ntmps94 Try.ntmps95 Try.ntmps96 Try.ntmps97 Try.ntmps98 Try.ntmps99 Try.ntmps100 Try.ntmps101 Try.ntmps102 Try.ntmps103 Try.ntmps104 Try.ntmps105 Try.ntmps106 Try.ntmps107 Try.ntmps108 Try.ntmps109 Try.ntmps110 Try.ntmps111 Try.ntmps112 Try.ntmps113 Try.ntmps114 Try.ntmps115 Try.ntmps116 Try.ntmps117 Try.ntmps118 Try.ntmps119 Try.ntmps120 Try.ntmps121
attribute [simp] Try.ntmps122 Try.ntmps123 Try.ntmps124 Try.ntmps125 Try.ntmps126 Try.ntmps127 Try.ntmps128 Try.ntmps129 Try.ntmps130 Try.ntmps131 Try.ntmps132 Try.ntmps133 Try.ntmps134 Try.ntmps135 Try.ntmps136 Try.ntmps137 Try.ntmps138 Try.ntmps139 Try.ntmps140 Try.ntmps141 Try.ntmps142 Try.ntmps143 Try.ntmps144 Try.ntmps145 Try.ntmps146 Try.ntmps147 Try.ntmps148 Try.ntmps149 Try.ntmps150 Try.ntmps151 Try.ntmps152 Try.ntmps153 Try.ntmps154 Try.ntmps155 Try.ntmps156 Try.ntmps157 Try.ntmps158 Try.ntmps159 Try.ntmps160 Try.ntmps161
attribute [simp] Try.ntmps162 Try.ntmps163 Try.ntmps164 Try.ntmps165 Try.ntmps166 Try.ntmps167 Try.ntmps168 Try.ntmps169 Try.ntmps170 Try.ntmps171 Try.ntmps172 Try.ntmps173 Try.ntmps174 Try.ntmps175 Try.ntmps176 Try.ntmps177 Try.ntmps178 Try.ntmps179 Try.ntmps180 Try.ntmps181 Try.ntmps182 Try.ntmps183 Try.ntmps184 Try.ntmps185 Try.ntmps186 Try.ntmps187 Try.ntmps188 Try.ntmps189 Try.ntmps190 Try.ntmps191 Try.ntmps192 Try.ntmps193 Try.ntmps194 Try.ntmps195 Try.ntmps196 Try.ntmps197 Try.ntmps198 Try.ntmps199 Try.ntmps200 Try.ntmps201
attribute [simp] Try.ntmps202 Try.ntmps203 Try.ntmps204
attribute [simp] Try.results2 Try.results3 Try.results4 Try.results5 Try.results6 Try.results7 Try.results8 Try.results9 Try.results10 Try.results11 Try.results12 Try.results13 Try.results14 Try.results15 Try.results16 Try.results17 Try.results18 Try.results19 Try.results20 Try.results21 Try.results22 Try.results23 Try.results24 Try.results25 Try.results26 Try.results27 Try.results28 Try.results29 Try.results30 Try.results31 Try.results32 Try.results33 Try.results34 Try.results35 Try.results36 Try.results37 Try.results38 Try.results39 Try.results40 Try.results41
attribute [simp] Try.results42 Try.results43 Try.results44 Try.results45 Try.results46 Try.results47 Try.results48 Try.results49 Try.results50 Try.results51 Try.results52 Try.results53 Try.results54 Try.results55 Try.results56 Try.results57 Try.results58 Try.results59 Try.results60 Try.results61 Try.results62 Try.results63 Try.results64 Try.results65 Try.results66 Try.results67 Try.results68 Try.results69 Try.results70 Try.results71 Try.results72 Try.results73 Try.results74 Try.results75 Try.results76 Try.results77 Try.results78 Try.results79 Try.results80 Try.results81
attribute [simp] Try.results82 Try.results83 Try.results84 Try.results85 Try.results86 Try.results87 Try.results88 Try.results89 Try.results90 Try.results91 Try.results92 Try.results93 Try.results94 Try.results95 Try.results96 Try.results97 Try.results98 Try.results99 Try.results100 Try.results101 Try.results102 Try.results103 Try.results104 Try.results105 Try.results106 Try.results107 Try.results108 Try.results109 Try.results110 Try.results111 Try.results112 Try.results113 Try.results114 Try.results115 Try.results116 Try.results117 Try.results118 Try.results119 Try.results120 Try.results121
attribute [simp] Try.results122 Try.results123 Try.results124 Try.results125 Try.results126 Try.results127 Try.results128 Try.results129 Try.results130 Try.results131 Try.results132 Try.results133 Try.results134 Try.results135 Try.results136 Try.results137 Try.results138 Try.results139 Try.results140 Try.results141 Try.results142 Try.results143 Try.results144 Try.results145 Try.results146 Try.results147 Try.results148 Try.results149 Try.results150 Try.results151 Try.results152 Try.results153 Try.results154 Try.results155 Try.results156 Try.results157 Try.results158 Try.results159 Try.results160 Try.results161
attribute [simp] Try.results162 Try.results163 Try.results164 Try.results165 Try.results166 Try.results167 Try.results168 Try.results169 Try.results170 Try.results171 Try.results172 Try.results173 Try.results174 Try.results175 Try.results176 Try.results177 Try.results178 Try.results179 Try.results180 Try.results181 Try.results182 Try.results183 Try.results184 Try.results185 Try.results186 Try.results187 Try.results188 Try.results189 Try.results190 Try.results191 Try.results192 Try.results193 Try.results194 Try.results195 Try.results196 Try.results197 Try.results198 Try.results199 Try.results200 Try.results201
attribute [simp] Try.results202 Try.results203 Try.results204
end Go.Proofs.Yteiclengdlhnnaa

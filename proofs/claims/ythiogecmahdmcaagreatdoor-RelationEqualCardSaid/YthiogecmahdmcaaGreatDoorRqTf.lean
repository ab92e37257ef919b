/- What the interpreter does with the statements' data. By program. -/
import Derived.Test.YthiogecmahdmcaaGreatDoorRqTy
import Derived.Test.YthiogecmahdmcaaGreatDoorRqFa
set_option linter.unusedVariables false
set_option linter.unusedSimpArgs false
namespace Go.Proofs.YthiogecmahdmcaaGreatDoor.Rq
open Go Go.Abs Go.Ty

theorem ln22 {s : Sl Int} : lenT Tryz.prog 22 (s.av encI) = some (I s.l.length) := av_len Tryz.underlying22
theorem ix22 {s : Sl Int} {i : Nat} (h : i < s.l.length) : indexAddrP Tryz.prog 22 (s.av encI) (.int .i64 i) = some (.iptr (encI s.l[i] ++ (s.l.drop (i + 1)).flatMap encI)) := av_idx Tryz.underlying22 sz3 I_len h
theorem ld3 {v : Int} {r : List AV} : loadL Tryz.prog 3 (encI v ++ r) = some (I v) := Go.Ty.load_one ag3
theorem ln23 {s : Sl Pred} : lenT Tryz.prog 23 (s.av Pred.cells) = some (I s.l.length) := av_len Tryz.underlying23
theorem ix23 {s : Sl Pred} {i : Nat} (h : i < s.l.length) : indexAddrP Tryz.prog 23 (s.av Pred.cells) (.int .i64 i) = some (.iptr (Pred.cells s.l[i] ++ (s.l.drop (i + 1)).flatMap Pred.cells)) := av_idx Tryz.underlying23 sz61 Pred.len h
theorem ld61 {v : Pred} {r : List AV} : loadL Tryz.prog 61 (Pred.cells v ++ r) = some (.agg (Pred.cells v)) := load_at ag61 sz61 (Pred.len v)
theorem lw61 {v : Pred} : loadL Tryz.prog 61 (Pred.cells v) = some (.agg (Pred.cells v)) := load_whole ag61 sz61 (Pred.len v)
theorem ln24 {s : Sl Xp} : lenT Tryz.prog 24 (s.av Xp.cells) = some (I s.l.length) := av_len Tryz.underlying24
theorem ix24 {s : Sl Xp} {i : Nat} (h : i < s.l.length) : indexAddrP Tryz.prog 24 (s.av Xp.cells) (.int .i64 i) = some (.iptr (Xp.cells s.l[i] ++ (s.l.drop (i + 1)).flatMap Xp.cells)) := av_idx Tryz.underlying24 sz48 Xp.len h
theorem ld48 {v : Xp} {r : List AV} : loadL Tryz.prog 48 (Xp.cells v ++ r) = some (.agg (Xp.cells v)) := load_at ag48 sz48 (Xp.len v)
theorem lw48 {v : Xp} : loadL Tryz.prog 48 (Xp.cells v) = some (.agg (Xp.cells v)) := load_whole ag48 sz48 (Xp.len v)
theorem ln25 {s : Sl Agg} : lenT Tryz.prog 25 (s.av Agg.cells) = some (I s.l.length) := av_len Tryz.underlying25
theorem ix25 {s : Sl Agg} {i : Nat} (h : i < s.l.length) : indexAddrP Tryz.prog 25 (s.av Agg.cells) (.int .i64 i) = some (.iptr (Agg.cells s.l[i] ++ (s.l.drop (i + 1)).flatMap Agg.cells)) := av_idx Tryz.underlying25 sz66 Agg.len h
theorem ld66 {v : Agg} {r : List AV} : loadL Tryz.prog 66 (Agg.cells v ++ r) = some (.agg (Agg.cells v)) := load_at ag66 sz66 (Agg.len v)
theorem lw66 {v : Agg} : loadL Tryz.prog 66 (Agg.cells v) = some (.agg (Agg.cells v)) := load_whole ag66 sz66 (Agg.len v)
theorem ln26 {s : Sl Win} : lenT Tryz.prog 26 (s.av Win.cells) = some (I s.l.length) := av_len Tryz.underlying26
theorem ix26 {s : Sl Win} {i : Nat} (h : i < s.l.length) : indexAddrP Tryz.prog 26 (s.av Win.cells) (.int .i64 i) = some (.iptr (Win.cells s.l[i] ++ (s.l.drop (i + 1)).flatMap Win.cells)) := av_idx Tryz.underlying26 sz70 Win.len h
theorem ld70 {v : Win} {r : List AV} : loadL Tryz.prog 70 (Win.cells v ++ r) = some (.agg (Win.cells v)) := load_at ag70 sz70 (Win.len v)
theorem lw70 {v : Win} : loadL Tryz.prog 70 (Win.cells v) = some (.agg (Win.cells v)) := load_whole ag70 sz70 (Win.len v)
theorem ln27 {s : Sl SKey} : lenT Tryz.prog 27 (s.av SKey.cells) = some (I s.l.length) := av_len Tryz.underlying27
theorem ix27 {s : Sl SKey} {i : Nat} (h : i < s.l.length) : indexAddrP Tryz.prog 27 (s.av SKey.cells) (.int .i64 i) = some (.iptr (SKey.cells s.l[i] ++ (s.l.drop (i + 1)).flatMap SKey.cells)) := av_idx Tryz.underlying27 sz54 SKey.len h
theorem ld54 {v : SKey} {r : List AV} : loadL Tryz.prog 54 (SKey.cells v ++ r) = some (.agg (SKey.cells v)) := load_at ag54 sz54 (SKey.len v)
theorem lw54 {v : SKey} : loadL Tryz.prog 54 (SKey.cells v) = some (.agg (SKey.cells v)) := load_whole ag54 sz54 (SKey.len v)
theorem ln28 {s : Sl Row} : lenT Tryz.prog 28 (s.av Row.cells) = some (I s.l.length) := av_len Tryz.underlying28
theorem ix28 {s : Sl Row} {i : Nat} (h : i < s.l.length) : indexAddrP Tryz.prog 28 (s.av Row.cells) (.int .i64 i) = some (.iptr (Row.cells s.l[i] ++ (s.l.drop (i + 1)).flatMap Row.cells)) := av_idx Tryz.underlying28 sz42 Row.len h
theorem ld42 {v : Row} {r : List AV} : loadL Tryz.prog 42 (Row.cells v ++ r) = some (v.av Val.cells) := Go.Ty.load_one ag42
theorem ln29 {s : Sl Plan} : lenT Tryz.prog 29 (s.av Plan.cells) = some (I s.l.length) := av_len Tryz.underlying29
theorem ix29 {s : Sl Plan} {i : Nat} (h : i < s.l.length) : indexAddrP Tryz.prog 29 (s.av Plan.cells) (.int .i64 i) = some (.iptr (Plan.cells s.l[i] ++ (s.l.drop (i + 1)).flatMap Plan.cells)) := av_idx Tryz.underlying29 sz31 Plan.len h
theorem ld31 {v : Plan} {r : List AV} : loadL Tryz.prog 31 (Plan.cells v ++ r) = some (.agg (Plan.cells v)) := load_at ag31 sz31 (Plan.len v)
theorem lw31 {v : Plan} : loadL Tryz.prog 31 (Plan.cells v) = some (.agg (Plan.cells v)) := load_whole ag31 sz31 (Plan.len v)
theorem ln42 {s : Sl Val} : lenT Tryz.prog 42 (s.av Val.cells) = some (I s.l.length) := av_len Tryz.underlying42
theorem ix42 {s : Sl Val} {i : Nat} (h : i < s.l.length) : indexAddrP Tryz.prog 42 (s.av Val.cells) (.int .i64 i) = some (.iptr (Val.cells s.l[i] ++ (s.l.drop (i + 1)).flatMap Val.cells)) := av_idx Tryz.underlying42 sz40 Val.len h
theorem ld40 {v : Val} {r : List AV} : loadL Tryz.prog 40 (Val.cells v ++ r) = some (.agg (Val.cells v)) := load_at ag40 sz40 (Val.len v)
theorem lw40 {v : Val} : loadL Tryz.prog 40 (Val.cells v) = some (.agg (Val.cells v)) := load_whole ag40 sz40 (Val.len v)
theorem ln41 {s : Sl Val} : lenT Tryz.prog 41 (s.av Val.cells) = some (I s.l.length) := av_len Tryz.underlying41
theorem ix41 {s : Sl Val} {i : Nat} (h : i < s.l.length) : indexAddrP Tryz.prog 41 (s.av Val.cells) (.int .i64 i) = some (.iptr (Val.cells s.l[i] ++ (s.l.drop (i + 1)).flatMap Val.cells)) := av_idx Tryz.underlying41 sz40 Val.len h
theorem ln46 {s : Sl (Xp × Bool)} : lenT Tryz.prog 46 (s.av cellsO) = some (I s.l.length) := av_len Tryz.underlying46
theorem ix46 {s : Sl (Xp × Bool)} {i : Nat} (h : i < s.l.length) : indexAddrP Tryz.prog 46 (s.av cellsO) (.int .i64 i) = some (.iptr (cellsO s.l[i] ++ (s.l.drop (i + 1)).flatMap cellsO)) := av_idx Tryz.underlying46 sz100 O_len h
theorem ld100 {v : (Xp × Bool)} {r : List AV} : loadL Tryz.prog 100 (cellsO v ++ r) = some (.agg (cellsO v)) := load_at ag100 sz100 (O_len v)
theorem lw100 {v : (Xp × Bool)} : loadL Tryz.prog 100 (cellsO v) = some (.agg (cellsO v)) := load_whole ag100 sz100 (O_len v)
theorem ln38 {s : Sl Col} : lenT Tryz.prog 38 (s.av Col.cells) = some (I s.l.length) := av_len Tryz.underlying38
theorem ix38 {s : Sl Col} {i : Nat} (h : i < s.l.length) : indexAddrP Tryz.prog 38 (s.av Col.cells) (.int .i64 i) = some (.iptr (Col.cells s.l[i] ++ (s.l.drop (i + 1)).flatMap Col.cells)) := av_idx Tryz.underlying38 sz37 Col.len h
theorem ld37 {v : Col} {r : List AV} : loadL Tryz.prog 37 (Col.cells v ++ r) = some (.agg (Col.cells v)) := load_at ag37 sz37 (Col.len v)
theorem lw37 {v : Col} : loadL Tryz.prog 37 (Col.cells v) = some (.agg (Col.cells v)) := load_whole ag37 sz37 (Col.len v)
theorem ln45 {s : Sl Rel} : lenT Tryz.prog 45 (s.av Rel.cells) = some (I s.l.length) := av_len Tryz.underlying45
theorem ix45 {s : Sl Rel} {i : Nat} (h : i < s.l.length) : indexAddrP Tryz.prog 45 (s.av Rel.cells) (.int .i64 i) = some (.iptr (Rel.cells s.l[i] ++ (s.l.drop (i + 1)).flatMap Rel.cells)) := av_idx Tryz.underlying45 sz44 Rel.len h
theorem ld44 {v : Rel} {r : List AV} : loadL Tryz.prog 44 (Rel.cells v ++ r) = some (.agg (Rel.cells v)) := load_at ag44 sz44 (Rel.len v)
theorem lw44 {v : Rel} : loadL Tryz.prog 44 (Rel.cells v) = some (.agg (Rel.cells v)) := load_whole ag44 sz44 (Rel.len v)
theorem ls24 {v : Xp} : litSlice Tryz.prog 24 1 [(0, .agg (Xp.cells v))] = some (Xp.cells v, 13, 48) := lit_one Tryz.underlying24 sz48 zr48 rfl (by decide) (by decide) rfl (Xp.len v)
theorem tk48 {v : Xp} : (Xp.cells v).take 13 = Xp.cells v := List.take_of_length_le (Nat.le_of_eq (Xp.len v))
theorem tk40 {v : Val} : (Val.cells v).take 3 = Val.cells v := List.take_of_length_le (Nat.le_of_eq (Val.len v))

end Go.Proofs.YthiogecmahdmcaaGreatDoor.Rq

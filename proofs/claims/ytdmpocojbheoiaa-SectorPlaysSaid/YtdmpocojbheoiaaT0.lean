/- Facts on the types. -/
import Derived.Test.YtdmpocojbheoiaaA12
import Derived.Test.YtdmpocojbheoiaaProg
import Derived.KernelRfl
namespace Go.Proofs.Ytdmpocojbheoiaa.AM
open Go.RowKit

def tyZeroB (P : Program) (t : TypeId) : Option (List Value) := (P.info? t).bind fun i => i.zero.map fun z => z.cells.toList
theorem tyZero_of {P : Program} {t : TypeId} {zs : List Value} (h : tyZeroB P t = some zs) : tyZero P t zs := by
  unfold tyZeroB at h
  cases hi : P.info? t with
  | none => rw [hi] at h; simp at h
  | some i =>
    rw [hi] at h
    simp only [Option.bind_some] at h
    obtain ⟨z, hz, h2⟩ := Option.map_eq_some_iff.1 h
    exact ⟨i, z, hi, hz, h2⟩
theorem tyElem_of {P : Program} {t e : TypeId} {esz bytes : Nat} (ht : P.underlying t = some (.slice e)) (h : (P.info? e).bind (fun i => i.zero.map fun z => (i.size, i.bytes, z.cells.size)) = some (esz, bytes, esz)) (h1 : 0 < esz) (h2 : 0 < bytes) : tyElem P t e esz bytes := by
  cases hi : P.info? e with
  | none => rw [hi] at h; simp at h
  | some i =>
    rw [hi] at h
    simp only [Option.bind_some] at h
    obtain ⟨z, hz, h3⟩ := Option.map_eq_some_iff.1 h
    simp only [Prod.mk.injEq] at h3
    exact ⟨ht, i, z, hi, hz, h3.1, h3.2.1, h3.2.2, h1, h2⟩
theorem mixed : Try.prog.follows .mixedOrders = true := by kernel_rfl

theorem sz2 : (Try.prog.info? 2).map (·.size) = some 1 := by kernel_rfl
theorem one2 : tyOne Try.prog 2 := ⟨_, Try.underlying2, rfl, sz2⟩
def zv2 : List Value := [.int .i64 0]
theorem zero2 : tyZero Try.prog 2 zv2 := tyZero_of (by kernel_rfl)
def zc2 : List C := [.i (.v (.int .i64 0))]
theorem zok2 : ZeroOk zv2 zc2 := (.v rfl .nil)
theorem minfo2 : (Try.prog.info? 2).map (fun i => (i.zero, i.size, i.bytes)) = some (some (.int .i64 0), 1, 8) := by kernel_rfl
theorem sz3 : (Try.prog.info? 3).map (·.size) = some 1 := by kernel_rfl
theorem one3 : tyOne Try.prog 3 := ⟨_, Try.underlying3, rfl, sz3⟩
def zv3 : List Value := [.int .i64 0]
theorem zero3 : tyZero Try.prog 3 zv3 := tyZero_of (by kernel_rfl)
def zc3 : List C := [.i (.v (.int .i64 0))]
theorem zok3 : ZeroOk zv3 zc3 := (.v rfl .nil)
theorem minfo3 : (Try.prog.info? 3).map (fun i => (i.zero, i.size, i.bytes)) = some (some (.int .i64 0), 1, 8) := by kernel_rfl
theorem sz4 : (Try.prog.info? 4).map (·.size) = some 1 := by kernel_rfl
theorem one4 : tyOne Try.prog 4 := ⟨_, Try.underlying4, rfl, sz4⟩
def zv4 : List Value := [.bool false]
theorem zero4 : tyZero Try.prog 4 zv4 := tyZero_of (by kernel_rfl)
def zc4 : List C := [.i (.v (.bool false))]
theorem zok4 : ZeroOk zv4 zc4 := (.v rfl .nil)
theorem minfo4 : (Try.prog.info? 4).map (fun i => (i.zero, i.size, i.bytes)) = some (some (.bool false), 1, 1) := by kernel_rfl
theorem sz5 : (Try.prog.info? 5).map (·.size) = some 1 := by kernel_rfl
theorem one5 : tyOne Try.prog 5 := ⟨_, Try.underlying5, rfl, sz5⟩
def zv5 : List Value := [.int .u8 0]
theorem zero5 : tyZero Try.prog 5 zv5 := tyZero_of (by kernel_rfl)
def zc5 : List C := [.i (.v (.int .u8 0))]
theorem zok5 : ZeroOk zv5 zc5 := (.v rfl .nil)
theorem minfo5 : (Try.prog.info? 5).map (fun i => (i.zero, i.size, i.bytes)) = some (some (.int .u8 0), 1, 1) := by kernel_rfl
theorem sz6 : (Try.prog.info? 6).map (·.size) = some 1 := by kernel_rfl
theorem one6 : tyOne Try.prog 6 := ⟨_, Try.underlying6, rfl, sz6⟩
def zv6 : List Value := [.int .u8 0]
theorem zero6 : tyZero Try.prog 6 zv6 := tyZero_of (by kernel_rfl)
def zc6 : List C := [.i (.v (.int .u8 0))]
theorem zok6 : ZeroOk zv6 zc6 := (.v rfl .nil)
theorem minfo6 : (Try.prog.info? 6).map (fun i => (i.zero, i.size, i.bytes)) = some (some (.int .u8 0), 1, 1) := by kernel_rfl
theorem sz7 : (Try.prog.info? 7).map (·.size) = some 4 := by kernel_rfl
theorem agg7 : tyAgg Try.prog 7 4 := ⟨_, Try.underlying7, rfl, sz7⟩
def zv7 : List Value := [.int .i64 0, .int .i64 0, .bool false, .int .u8 0]
theorem zero7 : tyZero Try.prog 7 zv7 := tyZero_of (by kernel_rfl)
def zc7 : List C := [.i (.v (.int .i64 0)), .i (.v (.int .i64 0)), .i (.v (.bool false)), .i (.v (.int .u8 0))]
theorem zok7 : ZeroOk zv7 zc7 := (.v rfl (.v rfl (.v rfl (.v rfl .nil))))
theorem sz9 : (Try.prog.info? 9).map (·.size) = some 1 := by kernel_rfl
theorem one9 : tyOne Try.prog 9 := ⟨_, Try.underlying9, rfl, sz9⟩
def zv9 : List Value := [.string ⟨#[]⟩]
theorem zero9 : tyZero Try.prog 9 zv9 := tyZero_of (by kernel_rfl)
def zc9 : List C := [.i (.v (.string ⟨#[]⟩))]
theorem zok9 : ZeroOk zv9 zc9 := (.v rfl .nil)
theorem minfo9 : (Try.prog.info? 9).map (fun i => (i.zero, i.size, i.bytes)) = some (some (.string ⟨#[]⟩), 1, 16) := by kernel_rfl
theorem sz22 : (Try.prog.info? 22).map (·.size) = some 1 := by kernel_rfl
theorem one22 : tyOne Try.prog 22 := ⟨_, Try.underlying22, rfl, sz22⟩
def zv22 : List Value := [.slice none 0 0]
theorem zero22 : tyZero Try.prog 22 zv22 := tyZero_of (by kernel_rfl)
def zc22 : List C := [.i (.sl 6 [])]
theorem zok22 : ZeroOk zv22 zc22 := (.sl .nil)
def zd22 : List C := [.i (.v (.slice none 0 0))]
theorem zov22 : ZeroOk zv22 zd22 := (.v rfl .nil)
theorem minfo22 : (Try.prog.info? 22).map (fun i => (i.zero, i.size, i.bytes)) = some (some (.slice none 0 0), 1, 24) := by kernel_rfl
theorem sz25 : (Try.prog.info? 25).map (·.size) = some 1 := by kernel_rfl
theorem one25 : tyOne Try.prog 25 := ⟨_, Try.underlying25, rfl, sz25⟩
def zv25 : List Value := [.pointer none]
theorem zero25 : tyZero Try.prog 25 zv25 := tyZero_of (by kernel_rfl)
def zc25 : List C := [.i (.v (.pointer none))]
theorem zok25 : ZeroOk zv25 zc25 := (.v rfl .nil)
theorem minfo25 : (Try.prog.info? 25).map (fun i => (i.zero, i.size, i.bytes)) = some (some (.pointer none), 1, 8) := by kernel_rfl
theorem sz26 : (Try.prog.info? 26).map (·.size) = some 1 := by kernel_rfl
theorem one26 : tyOne Try.prog 26 := ⟨_, Try.underlying26, rfl, sz26⟩
def zv26 : List Value := [.int .i64 0]
theorem zero26 : tyZero Try.prog 26 zv26 := tyZero_of (by kernel_rfl)
def zc26 : List C := [.i (.v (.int .i64 0))]
theorem zok26 : ZeroOk zv26 zc26 := (.v rfl .nil)
theorem minfo26 : (Try.prog.info? 26).map (fun i => (i.zero, i.size, i.bytes)) = some (some (.int .i64 0), 1, 8) := by kernel_rfl
theorem sz30 : (Try.prog.info? 30).map (·.size) = some 1 := by kernel_rfl
theorem one30 : tyOne Try.prog 30 := ⟨_, Try.underlying30, rfl, sz30⟩
def zv30 : List Value := [.slice none 0 0]
theorem zero30 : tyZero Try.prog 30 zv30 := tyZero_of (by kernel_rfl)
def zc30 : List C := [.i (.sl 1 [])]
theorem zok30 : ZeroOk zv30 zc30 := (.sl .nil)
def zd30 : List C := [.i (.v (.slice none 0 0))]
theorem zov30 : ZeroOk zv30 zd30 := (.v rfl .nil)
theorem minfo30 : (Try.prog.info? 30).map (fun i => (i.zero, i.size, i.bytes)) = some (some (.slice none 0 0), 1, 24) := by kernel_rfl
theorem sz31 : (Try.prog.info? 31).map (·.size) = some 1 := by kernel_rfl
theorem one31 : tyOne Try.prog 31 := ⟨_, Try.underlying31, rfl, sz31⟩
def zv31 : List Value := [.slice none 0 0]
theorem zero31 : tyZero Try.prog 31 zv31 := tyZero_of (by kernel_rfl)
def zc31 : List C := [.i (.sl 2 [])]
theorem zok31 : ZeroOk zv31 zc31 := (.sl .nil)
def zd31 : List C := [.i (.v (.slice none 0 0))]
theorem zov31 : ZeroOk zv31 zd31 := (.v rfl .nil)
theorem minfo31 : (Try.prog.info? 31).map (fun i => (i.zero, i.size, i.bytes)) = some (some (.slice none 0 0), 1, 24) := by kernel_rfl
theorem sz32 : (Try.prog.info? 32).map (·.size) = some 1 := by kernel_rfl
theorem one32 : tyOne Try.prog 32 := ⟨_, Try.underlying32, rfl, sz32⟩
def zv32 : List Value := [.int .u64 0]
theorem zero32 : tyZero Try.prog 32 zv32 := tyZero_of (by kernel_rfl)
def zc32 : List C := [.i (.v (.int .u64 0))]
theorem zok32 : ZeroOk zv32 zc32 := (.v rfl .nil)
theorem minfo32 : (Try.prog.info? 32).map (fun i => (i.zero, i.size, i.bytes)) = some (some (.int .u64 0), 1, 8) := by kernel_rfl
theorem sz33 : (Try.prog.info? 33).map (·.size) = some 7 := by kernel_rfl
theorem agg33 : tyAgg Try.prog 33 7 := ⟨_, Try.underlying33, rfl, sz33⟩
def zv33 : List Value := [.int .i64 0, .int .i64 0, .slice none 0 0, .slice none 0 0, .bool false, .int .u64 0, .int .i64 0]
theorem zero33 : tyZero Try.prog 33 zv33 := tyZero_of (by kernel_rfl)
def zc33 : List C := [.i (.v (.int .i64 0)), .i (.v (.int .i64 0)), .i (.sl 1 []), .i (.sl 2 []), .i (.v (.bool false)), .i (.v (.int .u64 0)), .i (.v (.int .i64 0))]
theorem zok33 : ZeroOk zv33 zc33 := (.v rfl (.v rfl (.sl (.sl (.v rfl (.v rfl (.v rfl .nil)))))))
def zd33 : List C := [.i (.v (.int .i64 0)), .i (.v (.int .i64 0)), .i (.v (.slice none 0 0)), .i (.v (.slice none 0 0)), .i (.v (.bool false)), .i (.v (.int .u64 0)), .i (.v (.int .i64 0))]
theorem zov33 : ZeroOk zv33 zd33 := (.v rfl (.v rfl (.v rfl (.v rfl (.v rfl (.v rfl (.v rfl .nil)))))))
theorem sz34 : (Try.prog.info? 34).map (·.size) = some 7 := by kernel_rfl
theorem agg34 : tyAgg Try.prog 34 7 := ⟨_, Try.underlying34, rfl, sz34⟩
def zv34 : List Value := [.int .i64 0, .int .i64 0, .slice none 0 0, .slice none 0 0, .bool false, .int .u64 0, .int .i64 0]
theorem zero34 : tyZero Try.prog 34 zv34 := tyZero_of (by kernel_rfl)
def zc34 : List C := [.i (.v (.int .i64 0)), .i (.v (.int .i64 0)), .i (.sl 1 []), .i (.sl 2 []), .i (.v (.bool false)), .i (.v (.int .u64 0)), .i (.v (.int .i64 0))]
theorem zok34 : ZeroOk zv34 zc34 := (.v rfl (.v rfl (.sl (.sl (.v rfl (.v rfl (.v rfl .nil)))))))
def zd34 : List C := [.i (.v (.int .i64 0)), .i (.v (.int .i64 0)), .i (.v (.slice none 0 0)), .i (.v (.slice none 0 0)), .i (.v (.bool false)), .i (.v (.int .u64 0)), .i (.v (.int .i64 0))]
theorem zov34 : ZeroOk zv34 zd34 := (.v rfl (.v rfl (.v rfl (.v rfl (.v rfl (.v rfl (.v rfl .nil)))))))
theorem sz38 : (Try.prog.info? 38).map (·.size) = some 1 := by kernel_rfl
theorem one38 : tyOne Try.prog 38 := ⟨_, Try.underlying38, rfl, sz38⟩
def zv38 : List Value := [.slice none 0 0]
theorem zero38 : tyZero Try.prog 38 zv38 := tyZero_of (by kernel_rfl)
def zc38 : List C := [.i (.sl 1 [])]
theorem zok38 : ZeroOk zv38 zc38 := (.sl .nil)
def zd38 : List C := [.i (.v (.slice none 0 0))]
theorem zov38 : ZeroOk zv38 zd38 := (.v rfl .nil)
theorem minfo38 : (Try.prog.info? 38).map (fun i => (i.zero, i.size, i.bytes)) = some (some (.slice none 0 0), 1, 24) := by kernel_rfl
theorem sz39 : (Try.prog.info? 39).map (·.size) = some 6 := by kernel_rfl
theorem agg39 : tyAgg Try.prog 39 6 := ⟨_, Try.underlying39, rfl, sz39⟩
def zv39 : List Value := [.int .i64 0, .int .i64 0, .int .i64 0, .slice none 0 0, .bool false, .int .u8 0]
theorem zero39 : tyZero Try.prog 39 zv39 := tyZero_of (by kernel_rfl)
def zc39 : List C := [.i (.v (.int .i64 0)), .i (.v (.int .i64 0)), .i (.v (.int .i64 0)), .i (.sl 1 []), .i (.v (.bool false)), .i (.v (.int .u8 0))]
theorem zok39 : ZeroOk zv39 zc39 := (.v rfl (.v rfl (.v rfl (.sl (.v rfl (.v rfl .nil))))))
def zd39 : List C := [.i (.v (.int .i64 0)), .i (.v (.int .i64 0)), .i (.v (.int .i64 0)), .i (.v (.slice none 0 0)), .i (.v (.bool false)), .i (.v (.int .u8 0))]
theorem zov39 : ZeroOk zv39 zd39 := (.v rfl (.v rfl (.v rfl (.v rfl (.v rfl (.v rfl .nil))))))
theorem sz40 : (Try.prog.info? 40).map (·.size) = some 6 := by kernel_rfl
theorem agg40 : tyAgg Try.prog 40 6 := ⟨_, Try.underlying40, rfl, sz40⟩
def zv40 : List Value := [.int .i64 0, .int .i64 0, .int .i64 0, .slice none 0 0, .bool false, .int .u8 0]
theorem zero40 : tyZero Try.prog 40 zv40 := tyZero_of (by kernel_rfl)
def zc40 : List C := [.i (.v (.int .i64 0)), .i (.v (.int .i64 0)), .i (.v (.int .i64 0)), .i (.sl 1 []), .i (.v (.bool false)), .i (.v (.int .u8 0))]
theorem zok40 : ZeroOk zv40 zc40 := (.v rfl (.v rfl (.v rfl (.sl (.v rfl (.v rfl .nil))))))
def zd40 : List C := [.i (.v (.int .i64 0)), .i (.v (.int .i64 0)), .i (.v (.int .i64 0)), .i (.v (.slice none 0 0)), .i (.v (.bool false)), .i (.v (.int .u8 0))]
theorem zov40 : ZeroOk zv40 zd40 := (.v rfl (.v rfl (.v rfl (.v rfl (.v rfl (.v rfl .nil))))))
theorem sz47 : (Try.prog.info? 47).map (·.size) = some 1 := by kernel_rfl
theorem one47 : tyOne Try.prog 47 := ⟨_, Try.underlying47, rfl, sz47⟩
def zv47 : List Value := [.map none]
theorem zero47 : tyZero Try.prog 47 zv47 := tyZero_of (by kernel_rfl)
def zc47 : List C := [.i (.v (.map none))]
theorem zok47 : ZeroOk zv47 zc47 := (.v rfl .nil)
theorem minfo47 : (Try.prog.info? 47).map (fun i => (i.zero, i.size, i.bytes)) = some (some (.map none), 1, 8) := by kernel_rfl
theorem sz48 : (Try.prog.info? 48).map (·.size) = some 1 := by kernel_rfl
theorem one48 : tyOne Try.prog 48 := ⟨_, Try.underlying48, rfl, sz48⟩
def zv48 : List Value := [.slice none 0 0]
theorem zero48 : tyZero Try.prog 48 zv48 := tyZero_of (by kernel_rfl)
def zc48 : List C := [.i (.sl 2 [])]
theorem zok48 : ZeroOk zv48 zc48 := (.sl .nil)
def zd48 : List C := [.i (.v (.slice none 0 0))]
theorem zov48 : ZeroOk zv48 zd48 := (.v rfl .nil)
theorem minfo48 : (Try.prog.info? 48).map (fun i => (i.zero, i.size, i.bytes)) = some (some (.slice none 0 0), 1, 24) := by kernel_rfl
theorem sz49 : (Try.prog.info? 49).map (·.size) = some 8 := by kernel_rfl
theorem agg49 : tyAgg Try.prog 49 8 := ⟨_, Try.underlying49, rfl, sz49⟩
def zv49 : List Value := [.int .i64 0, .int .i64 0, .map none, .slice none 0 0, .bool false, .int .u64 0, .bool false, .int .i64 0]
theorem zero49 : tyZero Try.prog 49 zv49 := tyZero_of (by kernel_rfl)
def zc49 : List C := [.i (.v (.int .i64 0)), .i (.v (.int .i64 0)), .i (.v (.map none)), .i (.sl 2 []), .i (.v (.bool false)), .i (.v (.int .u64 0)), .i (.v (.bool false)), .i (.v (.int .i64 0))]
theorem zok49 : ZeroOk zv49 zc49 := (.v rfl (.v rfl (.v rfl (.sl (.v rfl (.v rfl (.v rfl (.v rfl .nil))))))))
def zd49 : List C := [.i (.v (.int .i64 0)), .i (.v (.int .i64 0)), .i (.v (.map none)), .i (.v (.slice none 0 0)), .i (.v (.bool false)), .i (.v (.int .u64 0)), .i (.v (.bool false)), .i (.v (.int .i64 0))]
theorem zov49 : ZeroOk zv49 zd49 := (.v rfl (.v rfl (.v rfl (.v rfl (.v rfl (.v rfl (.v rfl (.v rfl .nil))))))))
theorem sz50 : (Try.prog.info? 50).map (·.size) = some 8 := by kernel_rfl
theorem agg50 : tyAgg Try.prog 50 8 := ⟨_, Try.underlying50, rfl, sz50⟩
def zv50 : List Value := [.int .i64 0, .int .i64 0, .map none, .slice none 0 0, .bool false, .int .u64 0, .bool false, .int .i64 0]
theorem zero50 : tyZero Try.prog 50 zv50 := tyZero_of (by kernel_rfl)
def zc50 : List C := [.i (.v (.int .i64 0)), .i (.v (.int .i64 0)), .i (.v (.map none)), .i (.sl 2 []), .i (.v (.bool false)), .i (.v (.int .u64 0)), .i (.v (.bool false)), .i (.v (.int .i64 0))]
theorem zok50 : ZeroOk zv50 zc50 := (.v rfl (.v rfl (.v rfl (.sl (.v rfl (.v rfl (.v rfl (.v rfl .nil))))))))
def zd50 : List C := [.i (.v (.int .i64 0)), .i (.v (.int .i64 0)), .i (.v (.map none)), .i (.v (.slice none 0 0)), .i (.v (.bool false)), .i (.v (.int .u64 0)), .i (.v (.bool false)), .i (.v (.int .i64 0))]
theorem zov50 : ZeroOk zv50 zd50 := (.v rfl (.v rfl (.v rfl (.v rfl (.v rfl (.v rfl (.v rfl (.v rfl .nil))))))))
theorem sz62 : (Try.prog.info? 62).map (·.size) = some 2 := by kernel_rfl
theorem agg62 : tyAgg Try.prog 62 2 := ⟨_, Try.underlying62, rfl, sz62⟩
def zv62 : List Value := [.int .i64 0, .slice none 0 0]
theorem zero62 : tyZero Try.prog 62 zv62 := tyZero_of (by kernel_rfl)
def zc62 : List C := [.i (.v (.int .i64 0)), .i (.sl 1 [])]
theorem zok62 : ZeroOk zv62 zc62 := (.v rfl (.sl .nil))
def zd62 : List C := [.i (.v (.int .i64 0)), .i (.v (.slice none 0 0))]
theorem zov62 : ZeroOk zv62 zd62 := (.v rfl (.v rfl .nil))
theorem sz63 : (Try.prog.info? 63).map (·.size) = some 2 := by kernel_rfl
theorem agg63 : tyAgg Try.prog 63 2 := ⟨_, Try.underlying63, rfl, sz63⟩
def zv63 : List Value := [.int .i64 0, .slice none 0 0]
theorem zero63 : tyZero Try.prog 63 zv63 := tyZero_of (by kernel_rfl)
def zc63 : List C := [.i (.v (.int .i64 0)), .i (.sl 1 [])]
theorem zok63 : ZeroOk zv63 zc63 := (.v rfl (.sl .nil))
def zd63 : List C := [.i (.v (.int .i64 0)), .i (.v (.slice none 0 0))]
theorem zov63 : ZeroOk zv63 zd63 := (.v rfl (.v rfl .nil))
theorem sz67 : (Try.prog.info? 67).map (·.size) = some 2 := by kernel_rfl
theorem agg67 : tyAgg Try.prog 67 2 := ⟨_, Try.underlying67, rfl, sz67⟩
def zv67 : List Value := [.int .i64 0, .string ⟨#[]⟩]
theorem zero67 : tyZero Try.prog 67 zv67 := tyZero_of (by kernel_rfl)
def zc67 : List C := [.i (.v (.int .i64 0)), .i (.v (.string ⟨#[]⟩))]
theorem zok67 : ZeroOk zv67 zc67 := (.v rfl (.v rfl .nil))
theorem sz68 : (Try.prog.info? 68).map (·.size) = some 2 := by kernel_rfl
theorem agg68 : tyAgg Try.prog 68 2 := ⟨_, Try.underlying68, rfl, sz68⟩
def zv68 : List Value := [.int .i64 0, .string ⟨#[]⟩]
theorem zero68 : tyZero Try.prog 68 zv68 := tyZero_of (by kernel_rfl)
def zc68 : List C := [.i (.v (.int .i64 0)), .i (.v (.string ⟨#[]⟩))]
theorem zok68 : ZeroOk zv68 zc68 := (.v rfl (.v rfl .nil))
theorem sz71 : (Try.prog.info? 71).map (·.size) = some 1 := by kernel_rfl
theorem one71 : tyOne Try.prog 71 := ⟨_, Try.underlying71, rfl, sz71⟩
def zv71 : List Value := [.nilFunc]
theorem zero71 : tyZero Try.prog 71 zv71 := tyZero_of (by kernel_rfl)
def zc71 : List C := [.i (.v (.nilFunc))]
theorem zok71 : ZeroOk zv71 zc71 := (.v rfl .nil)
theorem minfo71 : (Try.prog.info? 71).map (fun i => (i.zero, i.size, i.bytes)) = some (some (.nilFunc), 1, 8) := by kernel_rfl
theorem fld7_0 : tyFld Try.prog 7 0 0 := ⟨_, _, _, Try.underlying7, rfl, rfl, sz2⟩
theorem fld7_1 : tyFld Try.prog 7 1 1 := ⟨_, _, _, Try.underlying7, rfl, rfl, sz3⟩
theorem fld7_2 : tyFld Try.prog 7 2 2 := ⟨_, _, _, Try.underlying7, rfl, rfl, sz4⟩
theorem fld7_3 : tyFld Try.prog 7 3 3 := ⟨_, _, _, Try.underlying7, rfl, rfl, sz6⟩
theorem str7 : tyStruct Try.prog 7 zv7 [(0, 1), (1, 1), (2, 1), (3, 1)] := ⟨zero7, _, Try.underlying7, ⟨rfl, sz2, ⟨rfl, sz3, ⟨rfl, sz4, ⟨rfl, sz6, trivial⟩⟩⟩⟩⟩
theorem elem22 : tyElem Try.prog 22 40 6 56 := tyElem_of Try.underlying22 (by kernel_rfl) (by decide) (by decide)
theorem elem30 : tyElem Try.prog 30 9 1 16 := tyElem_of Try.underlying30 (by kernel_rfl) (by decide) (by decide)
theorem elem31 : tyElem Try.prog 31 68 2 24 := tyElem_of Try.underlying31 (by kernel_rfl) (by decide) (by decide)
theorem fld33_0 : tyFld Try.prog 33 0 0 := ⟨_, _, _, Try.underlying33, rfl, rfl, sz3⟩
theorem fld33_1 : tyFld Try.prog 33 1 1 := ⟨_, _, _, Try.underlying33, rfl, rfl, sz3⟩
theorem fld33_2 : tyFld Try.prog 33 2 2 := ⟨_, _, _, Try.underlying33, rfl, rfl, sz30⟩
theorem fld33_3 : tyFld Try.prog 33 3 3 := ⟨_, _, _, Try.underlying33, rfl, rfl, sz31⟩
theorem fld33_4 : tyFld Try.prog 33 4 4 := ⟨_, _, _, Try.underlying33, rfl, rfl, sz4⟩
theorem fld33_5 : tyFld Try.prog 33 5 5 := ⟨_, _, _, Try.underlying33, rfl, rfl, sz32⟩
theorem fld33_6 : tyFld Try.prog 33 6 6 := ⟨_, _, _, Try.underlying33, rfl, rfl, sz3⟩
theorem str33 : tyStruct Try.prog 33 zv33 [(0, 1), (1, 1), (2, 1), (3, 1), (4, 1), (5, 1), (6, 1)] := ⟨zero33, _, Try.underlying33, ⟨rfl, sz3, ⟨rfl, sz3, ⟨rfl, sz30, ⟨rfl, sz31, ⟨rfl, sz4, ⟨rfl, sz32, ⟨rfl, sz3, trivial⟩⟩⟩⟩⟩⟩⟩⟩
theorem fld34_0 : tyFld Try.prog 34 0 0 := ⟨_, _, _, Try.underlying34, rfl, rfl, sz3⟩
theorem fld34_1 : tyFld Try.prog 34 1 1 := ⟨_, _, _, Try.underlying34, rfl, rfl, sz3⟩
theorem fld34_2 : tyFld Try.prog 34 2 2 := ⟨_, _, _, Try.underlying34, rfl, rfl, sz30⟩
theorem fld34_3 : tyFld Try.prog 34 3 3 := ⟨_, _, _, Try.underlying34, rfl, rfl, sz31⟩
theorem fld34_4 : tyFld Try.prog 34 4 4 := ⟨_, _, _, Try.underlying34, rfl, rfl, sz4⟩
theorem fld34_5 : tyFld Try.prog 34 5 5 := ⟨_, _, _, Try.underlying34, rfl, rfl, sz32⟩
theorem fld34_6 : tyFld Try.prog 34 6 6 := ⟨_, _, _, Try.underlying34, rfl, rfl, sz3⟩
theorem str34 : tyStruct Try.prog 34 zv34 [(0, 1), (1, 1), (2, 1), (3, 1), (4, 1), (5, 1), (6, 1)] := ⟨zero34, _, Try.underlying34, ⟨rfl, sz3, ⟨rfl, sz3, ⟨rfl, sz30, ⟨rfl, sz31, ⟨rfl, sz4, ⟨rfl, sz32, ⟨rfl, sz3, trivial⟩⟩⟩⟩⟩⟩⟩⟩
theorem elem38 : tyElem Try.prog 38 5 1 1 := tyElem_of Try.underlying38 (by kernel_rfl) (by decide) (by decide)
theorem fld39_0 : tyFld Try.prog 39 0 0 := ⟨_, _, _, Try.underlying39, rfl, rfl, sz3⟩
theorem fld39_1 : tyFld Try.prog 39 1 1 := ⟨_, _, _, Try.underlying39, rfl, rfl, sz3⟩
theorem fld39_2 : tyFld Try.prog 39 2 2 := ⟨_, _, _, Try.underlying39, rfl, rfl, sz3⟩
theorem fld39_3 : tyFld Try.prog 39 3 3 := ⟨_, _, _, Try.underlying39, rfl, rfl, sz38⟩
theorem fld39_4 : tyFld Try.prog 39 4 4 := ⟨_, _, _, Try.underlying39, rfl, rfl, sz4⟩
theorem fld39_5 : tyFld Try.prog 39 5 5 := ⟨_, _, _, Try.underlying39, rfl, rfl, sz5⟩
theorem str39 : tyStruct Try.prog 39 zv39 [(0, 1), (1, 1), (2, 1), (3, 1), (4, 1), (5, 1)] := ⟨zero39, _, Try.underlying39, ⟨rfl, sz3, ⟨rfl, sz3, ⟨rfl, sz3, ⟨rfl, sz38, ⟨rfl, sz4, ⟨rfl, sz5, trivial⟩⟩⟩⟩⟩⟩⟩
theorem fld40_0 : tyFld Try.prog 40 0 0 := ⟨_, _, _, Try.underlying40, rfl, rfl, sz3⟩
theorem fld40_1 : tyFld Try.prog 40 1 1 := ⟨_, _, _, Try.underlying40, rfl, rfl, sz3⟩
theorem fld40_2 : tyFld Try.prog 40 2 2 := ⟨_, _, _, Try.underlying40, rfl, rfl, sz3⟩
theorem fld40_3 : tyFld Try.prog 40 3 3 := ⟨_, _, _, Try.underlying40, rfl, rfl, sz38⟩
theorem fld40_4 : tyFld Try.prog 40 4 4 := ⟨_, _, _, Try.underlying40, rfl, rfl, sz4⟩
theorem fld40_5 : tyFld Try.prog 40 5 5 := ⟨_, _, _, Try.underlying40, rfl, rfl, sz5⟩
theorem str40 : tyStruct Try.prog 40 zv40 [(0, 1), (1, 1), (2, 1), (3, 1), (4, 1), (5, 1)] := ⟨zero40, _, Try.underlying40, ⟨rfl, sz3, ⟨rfl, sz3, ⟨rfl, sz3, ⟨rfl, sz38, ⟨rfl, sz4, ⟨rfl, sz5, trivial⟩⟩⟩⟩⟩⟩⟩
theorem elem48 : tyElem Try.prog 48 63 2 32 := tyElem_of Try.underlying48 (by kernel_rfl) (by decide) (by decide)
theorem fld49_0 : tyFld Try.prog 49 0 0 := ⟨_, _, _, Try.underlying49, rfl, rfl, sz3⟩
theorem fld49_1 : tyFld Try.prog 49 1 1 := ⟨_, _, _, Try.underlying49, rfl, rfl, sz3⟩
theorem fld49_2 : tyFld Try.prog 49 2 2 := ⟨_, _, _, Try.underlying49, rfl, rfl, sz47⟩
theorem fld49_3 : tyFld Try.prog 49 3 3 := ⟨_, _, _, Try.underlying49, rfl, rfl, sz48⟩
theorem fld49_4 : tyFld Try.prog 49 4 4 := ⟨_, _, _, Try.underlying49, rfl, rfl, sz4⟩
theorem fld49_5 : tyFld Try.prog 49 5 5 := ⟨_, _, _, Try.underlying49, rfl, rfl, sz32⟩
theorem fld49_6 : tyFld Try.prog 49 6 6 := ⟨_, _, _, Try.underlying49, rfl, rfl, sz4⟩
theorem fld49_7 : tyFld Try.prog 49 7 7 := ⟨_, _, _, Try.underlying49, rfl, rfl, sz3⟩
theorem str49 : tyStruct Try.prog 49 zv49 [(0, 1), (1, 1), (2, 1), (3, 1), (4, 1), (5, 1), (6, 1), (7, 1)] := ⟨zero49, _, Try.underlying49, ⟨rfl, sz3, ⟨rfl, sz3, ⟨rfl, sz47, ⟨rfl, sz48, ⟨rfl, sz4, ⟨rfl, sz32, ⟨rfl, sz4, ⟨rfl, sz3, trivial⟩⟩⟩⟩⟩⟩⟩⟩⟩
theorem fld50_0 : tyFld Try.prog 50 0 0 := ⟨_, _, _, Try.underlying50, rfl, rfl, sz3⟩
theorem fld50_1 : tyFld Try.prog 50 1 1 := ⟨_, _, _, Try.underlying50, rfl, rfl, sz3⟩
theorem fld50_2 : tyFld Try.prog 50 2 2 := ⟨_, _, _, Try.underlying50, rfl, rfl, sz47⟩
theorem fld50_3 : tyFld Try.prog 50 3 3 := ⟨_, _, _, Try.underlying50, rfl, rfl, sz48⟩
theorem fld50_4 : tyFld Try.prog 50 4 4 := ⟨_, _, _, Try.underlying50, rfl, rfl, sz4⟩
theorem fld50_5 : tyFld Try.prog 50 5 5 := ⟨_, _, _, Try.underlying50, rfl, rfl, sz32⟩
theorem fld50_6 : tyFld Try.prog 50 6 6 := ⟨_, _, _, Try.underlying50, rfl, rfl, sz4⟩
theorem fld50_7 : tyFld Try.prog 50 7 7 := ⟨_, _, _, Try.underlying50, rfl, rfl, sz3⟩
theorem str50 : tyStruct Try.prog 50 zv50 [(0, 1), (1, 1), (2, 1), (3, 1), (4, 1), (5, 1), (6, 1), (7, 1)] := ⟨zero50, _, Try.underlying50, ⟨rfl, sz3, ⟨rfl, sz3, ⟨rfl, sz47, ⟨rfl, sz48, ⟨rfl, sz4, ⟨rfl, sz32, ⟨rfl, sz4, ⟨rfl, sz3, trivial⟩⟩⟩⟩⟩⟩⟩⟩⟩
theorem fld62_0 : tyFld Try.prog 62 0 0 := ⟨_, _, _, Try.underlying62, rfl, rfl, sz3⟩
theorem fld62_1 : tyFld Try.prog 62 1 1 := ⟨_, _, _, Try.underlying62, rfl, rfl, sz38⟩
theorem str62 : tyStruct Try.prog 62 zv62 [(0, 1), (1, 1)] := ⟨zero62, _, Try.underlying62, ⟨rfl, sz3, ⟨rfl, sz38, trivial⟩⟩⟩
theorem fld63_0 : tyFld Try.prog 63 0 0 := ⟨_, _, _, Try.underlying63, rfl, rfl, sz3⟩
theorem fld63_1 : tyFld Try.prog 63 1 1 := ⟨_, _, _, Try.underlying63, rfl, rfl, sz38⟩
theorem str63 : tyStruct Try.prog 63 zv63 [(0, 1), (1, 1)] := ⟨zero63, _, Try.underlying63, ⟨rfl, sz3, ⟨rfl, sz38, trivial⟩⟩⟩
theorem fld67_0 : tyFld Try.prog 67 0 0 := ⟨_, _, _, Try.underlying67, rfl, rfl, sz3⟩
theorem fld67_1 : tyFld Try.prog 67 1 1 := ⟨_, _, _, Try.underlying67, rfl, rfl, sz9⟩
theorem str67 : tyStruct Try.prog 67 zv67 [(0, 1), (1, 1)] := ⟨zero67, _, Try.underlying67, ⟨rfl, sz3, ⟨rfl, sz9, trivial⟩⟩⟩
theorem fld68_0 : tyFld Try.prog 68 0 0 := ⟨_, _, _, Try.underlying68, rfl, rfl, sz3⟩
theorem fld68_1 : tyFld Try.prog 68 1 1 := ⟨_, _, _, Try.underlying68, rfl, rfl, sz9⟩
theorem str68 : tyStruct Try.prog 68 zv68 [(0, 1), (1, 1)] := ⟨zero68, _, Try.underlying68, ⟨rfl, sz3, ⟨rfl, sz9, trivial⟩⟩⟩
theorem call2 : Callable Try.prog 2 := ⟨_, _, Try.func2, by kernel_rfl, rfl⟩
theorem call3 : Callable Try.prog 3 := ⟨_, _, Try.func3, by kernel_rfl, rfl⟩
theorem call4 : Callable Try.prog 4 := ⟨_, _, Try.func4, by kernel_rfl, rfl⟩
theorem call5 : Callable Try.prog 5 := ⟨_, _, Try.func5, by kernel_rfl, rfl⟩
theorem call6 : Callable Try.prog 6 := ⟨_, _, Try.func6, by kernel_rfl, rfl⟩
theorem call7 : Callable Try.prog 7 := ⟨_, _, Try.func7, by kernel_rfl, rfl⟩
theorem call8 : Callable Try.prog 8 := ⟨_, _, Try.func8, by kernel_rfl, rfl⟩
theorem call9 : Callable Try.prog 9 := ⟨_, _, Try.func9, by kernel_rfl, rfl⟩
theorem call10 : Callable Try.prog 10 := ⟨_, _, Try.func10, by kernel_rfl, rfl⟩
theorem call11 : Callable Try.prog 11 := ⟨_, _, Try.func11, by kernel_rfl, rfl⟩
theorem call12 : Callable Try.prog 12 := ⟨_, _, Try.func12, by kernel_rfl, rfl⟩
theorem call13 : Callable Try.prog 13 := ⟨_, _, Try.func13, by kernel_rfl, rfl⟩
theorem call14 : Callable Try.prog 14 := ⟨_, _, Try.func14, by kernel_rfl, rfl⟩
theorem call15 : Callable Try.prog 15 := ⟨_, _, Try.func15, by kernel_rfl, rfl⟩
theorem call16 : Callable Try.prog 16 := ⟨_, _, Try.func16, by kernel_rfl, rfl⟩
theorem call17 : Callable Try.prog 17 := ⟨_, _, Try.func17, by kernel_rfl, rfl⟩
theorem call18 : Callable Try.prog 18 := ⟨_, _, Try.func18, by kernel_rfl, rfl⟩
theorem call19 : Callable Try.prog 19 := ⟨_, _, Try.func19, by kernel_rfl, rfl⟩
theorem call20 : Callable Try.prog 20 := ⟨_, _, Try.func20, by kernel_rfl, rfl⟩
theorem call21 : Callable Try.prog 21 := ⟨_, _, Try.func21, by kernel_rfl, rfl⟩
theorem call22 : Callable Try.prog 22 := ⟨_, _, Try.func22, by kernel_rfl, rfl⟩
theorem call23 : Callable Try.prog 23 := ⟨_, _, Try.func23, by kernel_rfl, rfl⟩
theorem call24 : Callable Try.prog 24 := ⟨_, _, Try.func24, by kernel_rfl, rfl⟩
theorem call25 : Callable Try.prog 25 := ⟨_, _, Try.func25, by kernel_rfl, rfl⟩
theorem call26 : Callable Try.prog 26 := ⟨_, _, Try.func26, by kernel_rfl, rfl⟩
theorem call27 : Callable Try.prog 27 := ⟨_, _, Try.func27, by kernel_rfl, rfl⟩
theorem call28 : Callable Try.prog 28 := ⟨_, _, Try.func28, by kernel_rfl, rfl⟩
theorem call29 : Callable Try.prog 29 := ⟨_, _, Try.func29, by kernel_rfl, rfl⟩
theorem call30 : Callable Try.prog 30 := ⟨_, _, Try.func30, by kernel_rfl, rfl⟩
theorem call31 : Callable Try.prog 31 := ⟨_, _, Try.func31, by kernel_rfl, rfl⟩
theorem call32 : Callable Try.prog 32 := ⟨_, _, Try.func32, by kernel_rfl, rfl⟩
theorem call33 : Callable Try.prog 33 := ⟨_, _, Try.func33, by kernel_rfl, rfl⟩
theorem call34 : Callable Try.prog 34 := ⟨_, _, Try.func34, by kernel_rfl, rfl⟩
theorem call35 : Callable Try.prog 35 := ⟨_, _, Try.func35, by kernel_rfl, rfl⟩
theorem call36 : Callable Try.prog 36 := ⟨_, _, Try.func36, by kernel_rfl, rfl⟩
theorem call37 : Callable Try.prog 37 := ⟨_, _, Try.func37, by kernel_rfl, rfl⟩
end Go.Proofs.Ytdmpocojbheoiaa.AM

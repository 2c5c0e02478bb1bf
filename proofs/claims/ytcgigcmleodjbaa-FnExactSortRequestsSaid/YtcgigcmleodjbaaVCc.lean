/-
  Shapes of cells: whatever has a type's shape is told as a value of the type.
-/
import Derived.Test.YtcgigcmleodjbaaVCb
namespace Go.D
set_option linter.unusedVariables false
inductive Shp where
  | ki
  | ku
  | ks
  | kb
  | kl (t : Ty)
  | kx
  deriving DecidableEq
def FC.shp : FC → Shp
  | .val (.int .i64 _) => .ki
  | .val (.int .u8 _) => .ku
  | .val (.string _) => .ks
  | .val (.bool _) => .kb
  | .l t _ => .kl t
  | _ => .kx
def Ty.shapes : Ty → List Shp
  | .int => [.ki]
  | .str => [.ks]
  | .bool => [.kb]
  | .u8 => [.ku]
  | .addr => [.ks, .ks]
  | .attr => [.ks, .ks]
  | .token => [.ki, .ks, .kl .attr, .ks]
  | .tokenizer => [.ks]
  | .node => [.ks, .ks, .ki, .kl .attr]
  | .builder => [.kl .node, .kl .int]
  | .rule => [.ks, .ki]
  | .sheet => [.kl .rule]
  | .line => [.ki, .ks]
  | .policy => [.kb, .kl .str, .kl .str, .kl .str, .ks]
  | .response => [.ki, .ki, .ks, .ki, .kb, .ks]
  | .request => [.ki, .ks, .ks, .ks, .ks]
  | .file => [.ks, .ki, .ki, .ks, .ki, .kb, .ks]
  | .server => [.ks, .kl .file]
  | .entry => [.ks, .ks, .ks, .ki, .ki, .ks, .ki, .kb, .ks, .ki]
  | .cache => [.kl .entry]
  | .sent => [.ks, .ks, .ks, .kb]
  | .net => [.kl .server, .kl .entry, .kl .sent, .ki]
  | .slot => [.ki, .ks, .ks, .ks, .ki, .kb, .ki, .ks]
  | .module => [.ks, .ks, .kb, .ki, .ks]
  | .page => [.ks, .ks, .kb, .kl .str, .kl .str, .kl .str, .ks, .ks, .kl .token, .kb, .kl .node, .kl .int, .kl .slot, .kl .module, .kl .addr, .ki, .ki, .ki, .ki, .kl .addr, .kl .str, .kb]
  | .result => [.kl .node, .kl .int, .kl .str, .kl .str, .kl .rule, .kb]
  | .guess => [.ks, .ks, .ki, .ki, .ks, .ki, .kb, .ks, .kb]
  | .conn => [.ks, .ks, .ki, .kb, .ki, .ki, .ks, .ki, .kb, .ks]
  | .loader => [.kl .server, .kl .entry, .kl .sent, .ki, .ks, .ks, .kb, .kl .str, .kl .str, .kl .str, .ks, .ks, .kl .token, .kb, .kl .node, .kl .int, .kl .slot, .kl .module, .kl .addr, .ki, .ki, .ki, .ki, .kl .addr, .kl .str, .kb, .kl .str, .kl .conn, .kl .guess]
  | .visit => [.ks, .ks, .ks, .ks, .kb, .kl .str, .kl .str, .kl .str, .ks, .ks, .kl .token, .kb, .kl .node, .kl .int, .kl .slot, .kl .module, .kl .addr, .ki, .ki, .ki, .ki, .kl .addr, .kl .str, .kb, .kb]
  | .tab => [.kl .visit, .ki]
  | .kept => [.ks, .ks, .ki, .ki, .ks, .ki, .kb, .ks]
  | .hidden => [.kb, .ks, .ks, .kb, .kl .str, .kl .str, .kl .str, .ks, .ks, .kl .token, .kb, .kl .node, .kl .int, .kl .slot, .kl .module, .kl .addr, .ki, .ki, .ki, .ki, .kl .addr, .kl .str, .kb, .kl .kept, .kl .server, .ki]
  | .world => [.kl .server, .kl .entry, .kl .sent, .ki, .kl .visit, .ki, .kb, .ks, .ks, .kb, .kl .str, .kl .str, .kl .str, .ks, .ks, .kl .token, .kb, .kl .node, .kl .int, .kl .slot, .kl .module, .kl .addr, .ki, .ki, .ki, .ki, .kl .addr, .kl .str, .kb, .kl .kept, .kl .server, .ki, .kb]
  | .event => [.ki, .ks, .ks, .ki, .ki]
theorem sI {fs : List FC} {r : List Shp} (h : fs.map FC.shp = .ki :: r) : ∃ (a : Int) (gs : List FC), fs = .val (.int .i64 a) :: gs ∧ gs.map FC.shp = r := by
  cases fs with
  | nil => simp at h
  | cons c gs =>
    simp only [List.map_cons, List.cons.injEq] at h
    obtain ⟨h1, h2⟩ := h
    unfold FC.shp at h1
    split at h1 <;> first | exact ⟨_, gs, rfl, h2⟩ | cases h1
theorem sU {fs : List FC} {r : List Shp} (h : fs.map FC.shp = .ku :: r) : ∃ (a : Int) (gs : List FC), fs = .val (.int .u8 a) :: gs ∧ gs.map FC.shp = r := by
  cases fs with
  | nil => simp at h
  | cons c gs =>
    simp only [List.map_cons, List.cons.injEq] at h
    obtain ⟨h1, h2⟩ := h
    unfold FC.shp at h1
    split at h1 <;> first | exact ⟨_, gs, rfl, h2⟩ | cases h1
theorem sS {fs : List FC} {r : List Shp} (h : fs.map FC.shp = .ks :: r) : ∃ (a : ByteArray) (gs : List FC), fs = .val (.string a) :: gs ∧ gs.map FC.shp = r := by
  cases fs with
  | nil => simp at h
  | cons c gs =>
    simp only [List.map_cons, List.cons.injEq] at h
    obtain ⟨h1, h2⟩ := h
    unfold FC.shp at h1
    split at h1 <;> first | exact ⟨_, gs, rfl, h2⟩ | cases h1
theorem sB {fs : List FC} {r : List Shp} (h : fs.map FC.shp = .kb :: r) : ∃ (a : Bool) (gs : List FC), fs = .val (.bool a) :: gs ∧ gs.map FC.shp = r := by
  cases fs with
  | nil => simp at h
  | cons c gs =>
    simp only [List.map_cons, List.cons.injEq] at h
    obtain ⟨h1, h2⟩ := h
    unfold FC.shp at h1
    split at h1 <;> first | exact ⟨_, gs, rfl, h2⟩ | cases h1
theorem sL {t : Ty} {fs : List FC} {r : List Shp} (h : fs.map FC.shp = .kl t :: r) : ∃ (a : List (El t)) (gs : List FC), fs = .l t a :: gs ∧ gs.map FC.shp = r := by
  cases fs with
  | nil => simp at h
  | cons c gs =>
    simp only [List.map_cons, List.cons.injEq] at h
    obtain ⟨h1, h2⟩ := h
    unfold FC.shp at h1
    split at h1 <;> first | (injection h1 with h1; subst h1; exact ⟨_, gs, rfl, h2⟩) | cases h1
theorem sE {fs : List FC} (h : fs.map FC.shp = []) : fs = [] := by simpa using h
theorem dec_shape : ∀ (t : Ty) (fs : List FC), fs.map FC.shp = t.shapes → ∃ x : El t, fs = enc t x
  | .int, fs, h => by
    obtain ⟨a0, g0, rfl, h0⟩ := sI h
    obtain rfl := sE h0
    exact ⟨a0, rfl⟩
  | .str, fs, h => by
    obtain ⟨a0, g0, rfl, h0⟩ := sS h
    obtain rfl := sE h0
    exact ⟨a0, rfl⟩
  | .bool, fs, h => by
    obtain ⟨a0, g0, rfl, h0⟩ := sB h
    obtain rfl := sE h0
    exact ⟨a0, rfl⟩
  | .u8, fs, h => by
    obtain ⟨a0, g0, rfl, h0⟩ := sU h
    obtain rfl := sE h0
    exact ⟨a0, rfl⟩
  | .addr, fs, h => by
    obtain ⟨a0, g0, rfl, h0⟩ := sS h
    obtain ⟨a1, g1, rfl, h1⟩ := sS h0
    obtain rfl := sE h1
    exact ⟨⟨a0, a1⟩, rfl⟩
  | .attr, fs, h => by
    obtain ⟨a0, g0, rfl, h0⟩ := sS h
    obtain ⟨a1, g1, rfl, h1⟩ := sS h0
    obtain rfl := sE h1
    exact ⟨⟨a0, a1⟩, rfl⟩
  | .token, fs, h => by
    obtain ⟨a0, g0, rfl, h0⟩ := sI h
    obtain ⟨a1, g1, rfl, h1⟩ := sS h0
    obtain ⟨a2, g2, rfl, h2⟩ := sL h1
    obtain ⟨a3, g3, rfl, h3⟩ := sS h2
    obtain rfl := sE h3
    exact ⟨⟨a0, a1, a2, a3⟩, rfl⟩
  | .tokenizer, fs, h => by
    obtain ⟨a0, g0, rfl, h0⟩ := sS h
    obtain rfl := sE h0
    exact ⟨⟨a0⟩, rfl⟩
  | .node, fs, h => by
    obtain ⟨a0, g0, rfl, h0⟩ := sS h
    obtain ⟨a1, g1, rfl, h1⟩ := sS h0
    obtain ⟨a2, g2, rfl, h2⟩ := sI h1
    obtain ⟨a3, g3, rfl, h3⟩ := sL h2
    obtain rfl := sE h3
    exact ⟨⟨a0, a1, a2, a3⟩, rfl⟩
  | .builder, fs, h => by
    obtain ⟨a0, g0, rfl, h0⟩ := sL h
    obtain ⟨a1, g1, rfl, h1⟩ := sL h0
    obtain rfl := sE h1
    exact ⟨⟨a0, a1⟩, rfl⟩
  | .rule, fs, h => by
    obtain ⟨a0, g0, rfl, h0⟩ := sS h
    obtain ⟨a1, g1, rfl, h1⟩ := sI h0
    obtain rfl := sE h1
    exact ⟨⟨a0, a1⟩, rfl⟩
  | .sheet, fs, h => by
    obtain ⟨a0, g0, rfl, h0⟩ := sL h
    obtain rfl := sE h0
    exact ⟨⟨a0⟩, rfl⟩
  | .line, fs, h => by
    obtain ⟨a0, g0, rfl, h0⟩ := sI h
    obtain ⟨a1, g1, rfl, h1⟩ := sS h0
    obtain rfl := sE h1
    exact ⟨⟨a0, a1⟩, rfl⟩
  | .policy, fs, h => by
    obtain ⟨a0, g0, rfl, h0⟩ := sB h
    obtain ⟨a1, g1, rfl, h1⟩ := sL h0
    obtain ⟨a2, g2, rfl, h2⟩ := sL h1
    obtain ⟨a3, g3, rfl, h3⟩ := sL h2
    obtain ⟨a4, g4, rfl, h4⟩ := sS h3
    obtain rfl := sE h4
    exact ⟨⟨a0, a1, a2, a3, a4⟩, rfl⟩
  | .response, fs, h => by
    obtain ⟨a0, g0, rfl, h0⟩ := sI h
    obtain ⟨a1, g1, rfl, h1⟩ := sI h0
    obtain ⟨a2, g2, rfl, h2⟩ := sS h1
    obtain ⟨a3, g3, rfl, h3⟩ := sI h2
    obtain ⟨a4, g4, rfl, h4⟩ := sB h3
    obtain ⟨a5, g5, rfl, h5⟩ := sS h4
    obtain rfl := sE h5
    exact ⟨⟨a0, a1, a2, a3, a4, a5⟩, rfl⟩
  | .request, fs, h => by
    obtain ⟨a0, g0, rfl, h0⟩ := sI h
    obtain ⟨a1, g1, rfl, h1⟩ := sS h0
    obtain ⟨a2, g2, rfl, h2⟩ := sS h1
    obtain ⟨a3, g3, rfl, h3⟩ := sS h2
    obtain ⟨a4, g4, rfl, h4⟩ := sS h3
    obtain rfl := sE h4
    exact ⟨⟨a0, ⟨a1, a2⟩, a3, a4⟩, rfl⟩
  | .file, fs, h => by
    obtain ⟨a0, g0, rfl, h0⟩ := sS h
    obtain ⟨a1, g1, rfl, h1⟩ := sI h0
    obtain ⟨a2, g2, rfl, h2⟩ := sI h1
    obtain ⟨a3, g3, rfl, h3⟩ := sS h2
    obtain ⟨a4, g4, rfl, h4⟩ := sI h3
    obtain ⟨a5, g5, rfl, h5⟩ := sB h4
    obtain ⟨a6, g6, rfl, h6⟩ := sS h5
    obtain rfl := sE h6
    exact ⟨⟨a0, ⟨a1, a2, a3, a4, a5, a6⟩⟩, rfl⟩
  | .server, fs, h => by
    obtain ⟨a0, g0, rfl, h0⟩ := sS h
    obtain ⟨a1, g1, rfl, h1⟩ := sL h0
    obtain rfl := sE h1
    exact ⟨⟨a0, a1⟩, rfl⟩
  | .entry, fs, h => by
    obtain ⟨a0, g0, rfl, h0⟩ := sS h
    obtain ⟨a1, g1, rfl, h1⟩ := sS h0
    obtain ⟨a2, g2, rfl, h2⟩ := sS h1
    obtain ⟨a3, g3, rfl, h3⟩ := sI h2
    obtain ⟨a4, g4, rfl, h4⟩ := sI h3
    obtain ⟨a5, g5, rfl, h5⟩ := sS h4
    obtain ⟨a6, g6, rfl, h6⟩ := sI h5
    obtain ⟨a7, g7, rfl, h7⟩ := sB h6
    obtain ⟨a8, g8, rfl, h8⟩ := sS h7
    obtain ⟨a9, g9, rfl, h9⟩ := sI h8
    obtain rfl := sE h9
    exact ⟨⟨a0, ⟨a1, a2⟩, ⟨a3, a4, a5, a6, a7, a8⟩, a9⟩, rfl⟩
  | .cache, fs, h => by
    obtain ⟨a0, g0, rfl, h0⟩ := sL h
    obtain rfl := sE h0
    exact ⟨⟨a0⟩, rfl⟩
  | .sent, fs, h => by
    obtain ⟨a0, g0, rfl, h0⟩ := sS h
    obtain ⟨a1, g1, rfl, h1⟩ := sS h0
    obtain ⟨a2, g2, rfl, h2⟩ := sS h1
    obtain ⟨a3, g3, rfl, h3⟩ := sB h2
    obtain rfl := sE h3
    exact ⟨⟨a0, ⟨a1, a2⟩, a3⟩, rfl⟩
  | .net, fs, h => by
    obtain ⟨a0, g0, rfl, h0⟩ := sL h
    obtain ⟨a1, g1, rfl, h1⟩ := sL h0
    obtain ⟨a2, g2, rfl, h2⟩ := sL h1
    obtain ⟨a3, g3, rfl, h3⟩ := sI h2
    obtain rfl := sE h3
    exact ⟨⟨a0, ⟨a1⟩, a2, a3⟩, rfl⟩
  | .slot, fs, h => by
    obtain ⟨a0, g0, rfl, h0⟩ := sI h
    obtain ⟨a1, g1, rfl, h1⟩ := sS h0
    obtain ⟨a2, g2, rfl, h2⟩ := sS h1
    obtain ⟨a3, g3, rfl, h3⟩ := sS h2
    obtain ⟨a4, g4, rfl, h4⟩ := sI h3
    obtain ⟨a5, g5, rfl, h5⟩ := sB h4
    obtain ⟨a6, g6, rfl, h6⟩ := sI h5
    obtain ⟨a7, g7, rfl, h7⟩ := sS h6
    obtain rfl := sE h7
    exact ⟨⟨a0, ⟨a1, a2⟩, a3, a4, a5, a6, a7⟩, rfl⟩
  | .module, fs, h => by
    obtain ⟨a0, g0, rfl, h0⟩ := sS h
    obtain ⟨a1, g1, rfl, h1⟩ := sS h0
    obtain ⟨a2, g2, rfl, h2⟩ := sB h1
    obtain ⟨a3, g3, rfl, h3⟩ := sI h2
    obtain ⟨a4, g4, rfl, h4⟩ := sS h3
    obtain rfl := sE h4
    exact ⟨⟨⟨a0, a1⟩, a2, a3, a4⟩, rfl⟩
  | .page, fs, h => by
    obtain ⟨a0, g0, rfl, h0⟩ := sS h
    obtain ⟨a1, g1, rfl, h1⟩ := sS h0
    obtain ⟨a2, g2, rfl, h2⟩ := sB h1
    obtain ⟨a3, g3, rfl, h3⟩ := sL h2
    obtain ⟨a4, g4, rfl, h4⟩ := sL h3
    obtain ⟨a5, g5, rfl, h5⟩ := sL h4
    obtain ⟨a6, g6, rfl, h6⟩ := sS h5
    obtain ⟨a7, g7, rfl, h7⟩ := sS h6
    obtain ⟨a8, g8, rfl, h8⟩ := sL h7
    obtain ⟨a9, g9, rfl, h9⟩ := sB h8
    obtain ⟨a10, g10, rfl, h10⟩ := sL h9
    obtain ⟨a11, g11, rfl, h11⟩ := sL h10
    obtain ⟨a12, g12, rfl, h12⟩ := sL h11
    obtain ⟨a13, g13, rfl, h13⟩ := sL h12
    obtain ⟨a14, g14, rfl, h14⟩ := sL h13
    obtain ⟨a15, g15, rfl, h15⟩ := sI h14
    obtain ⟨a16, g16, rfl, h16⟩ := sI h15
    obtain ⟨a17, g17, rfl, h17⟩ := sI h16
    obtain ⟨a18, g18, rfl, h18⟩ := sI h17
    obtain ⟨a19, g19, rfl, h19⟩ := sL h18
    obtain ⟨a20, g20, rfl, h20⟩ := sL h19
    obtain ⟨a21, g21, rfl, h21⟩ := sB h20
    obtain rfl := sE h21
    exact ⟨⟨⟨a0, a1⟩, ⟨a2, a3, a4, a5, a6⟩, ⟨a7⟩, a8, a9, ⟨a10, a11⟩, a12, a13, a14, a15, a16, a17, a18, a19, a20, a21⟩, rfl⟩
  | .result, fs, h => by
    obtain ⟨a0, g0, rfl, h0⟩ := sL h
    obtain ⟨a1, g1, rfl, h1⟩ := sL h0
    obtain ⟨a2, g2, rfl, h2⟩ := sL h1
    obtain ⟨a3, g3, rfl, h3⟩ := sL h2
    obtain ⟨a4, g4, rfl, h4⟩ := sL h3
    obtain ⟨a5, g5, rfl, h5⟩ := sB h4
    obtain rfl := sE h5
    exact ⟨⟨⟨a0, a1⟩, a2, a3, ⟨a4⟩, a5⟩, rfl⟩
  | .guess, fs, h => by
    obtain ⟨a0, g0, rfl, h0⟩ := sS h
    obtain ⟨a1, g1, rfl, h1⟩ := sS h0
    obtain ⟨a2, g2, rfl, h2⟩ := sI h1
    obtain ⟨a3, g3, rfl, h3⟩ := sI h2
    obtain ⟨a4, g4, rfl, h4⟩ := sS h3
    obtain ⟨a5, g5, rfl, h5⟩ := sI h4
    obtain ⟨a6, g6, rfl, h6⟩ := sB h5
    obtain ⟨a7, g7, rfl, h7⟩ := sS h6
    obtain ⟨a8, g8, rfl, h8⟩ := sB h7
    obtain rfl := sE h8
    exact ⟨⟨⟨a0, a1⟩, ⟨a2, a3, a4, a5, a6, a7⟩, a8⟩, rfl⟩
  | .conn, fs, h => by
    obtain ⟨a0, g0, rfl, h0⟩ := sS h
    obtain ⟨a1, g1, rfl, h1⟩ := sS h0
    obtain ⟨a2, g2, rfl, h2⟩ := sI h1
    obtain ⟨a3, g3, rfl, h3⟩ := sB h2
    obtain ⟨a4, g4, rfl, h4⟩ := sI h3
    obtain ⟨a5, g5, rfl, h5⟩ := sI h4
    obtain ⟨a6, g6, rfl, h6⟩ := sS h5
    obtain ⟨a7, g7, rfl, h7⟩ := sI h6
    obtain ⟨a8, g8, rfl, h8⟩ := sB h7
    obtain ⟨a9, g9, rfl, h9⟩ := sS h8
    obtain rfl := sE h9
    exact ⟨⟨⟨a0, a1⟩, a2, a3, ⟨a4, a5, a6, a7, a8, a9⟩⟩, rfl⟩
  | .loader, fs, h => by
    obtain ⟨a0, g0, rfl, h0⟩ := sL h
    obtain ⟨a1, g1, rfl, h1⟩ := sL h0
    obtain ⟨a2, g2, rfl, h2⟩ := sL h1
    obtain ⟨a3, g3, rfl, h3⟩ := sI h2
    obtain ⟨a4, g4, rfl, h4⟩ := sS h3
    obtain ⟨a5, g5, rfl, h5⟩ := sS h4
    obtain ⟨a6, g6, rfl, h6⟩ := sB h5
    obtain ⟨a7, g7, rfl, h7⟩ := sL h6
    obtain ⟨a8, g8, rfl, h8⟩ := sL h7
    obtain ⟨a9, g9, rfl, h9⟩ := sL h8
    obtain ⟨a10, g10, rfl, h10⟩ := sS h9
    obtain ⟨a11, g11, rfl, h11⟩ := sS h10
    obtain ⟨a12, g12, rfl, h12⟩ := sL h11
    obtain ⟨a13, g13, rfl, h13⟩ := sB h12
    obtain ⟨a14, g14, rfl, h14⟩ := sL h13
    obtain ⟨a15, g15, rfl, h15⟩ := sL h14
    obtain ⟨a16, g16, rfl, h16⟩ := sL h15
    obtain ⟨a17, g17, rfl, h17⟩ := sL h16
    obtain ⟨a18, g18, rfl, h18⟩ := sL h17
    obtain ⟨a19, g19, rfl, h19⟩ := sI h18
    obtain ⟨a20, g20, rfl, h20⟩ := sI h19
    obtain ⟨a21, g21, rfl, h21⟩ := sI h20
    obtain ⟨a22, g22, rfl, h22⟩ := sI h21
    obtain ⟨a23, g23, rfl, h23⟩ := sL h22
    obtain ⟨a24, g24, rfl, h24⟩ := sL h23
    obtain ⟨a25, g25, rfl, h25⟩ := sB h24
    obtain ⟨a26, g26, rfl, h26⟩ := sL h25
    obtain ⟨a27, g27, rfl, h27⟩ := sL h26
    obtain ⟨a28, g28, rfl, h28⟩ := sL h27
    obtain rfl := sE h28
    exact ⟨⟨⟨a0, ⟨a1⟩, a2, a3⟩, ⟨⟨a4, a5⟩, ⟨a6, a7, a8, a9, a10⟩, ⟨a11⟩, a12, a13, ⟨a14, a15⟩, a16, a17, a18, a19, a20, a21, a22, a23, a24, a25⟩, a26, a27, a28⟩, rfl⟩
  | .visit, fs, h => by
    obtain ⟨a0, g0, rfl, h0⟩ := sS h
    obtain ⟨a1, g1, rfl, h1⟩ := sS h0
    obtain ⟨a2, g2, rfl, h2⟩ := sS h1
    obtain ⟨a3, g3, rfl, h3⟩ := sS h2
    obtain ⟨a4, g4, rfl, h4⟩ := sB h3
    obtain ⟨a5, g5, rfl, h5⟩ := sL h4
    obtain ⟨a6, g6, rfl, h6⟩ := sL h5
    obtain ⟨a7, g7, rfl, h7⟩ := sL h6
    obtain ⟨a8, g8, rfl, h8⟩ := sS h7
    obtain ⟨a9, g9, rfl, h9⟩ := sS h8
    obtain ⟨a10, g10, rfl, h10⟩ := sL h9
    obtain ⟨a11, g11, rfl, h11⟩ := sB h10
    obtain ⟨a12, g12, rfl, h12⟩ := sL h11
    obtain ⟨a13, g13, rfl, h13⟩ := sL h12
    obtain ⟨a14, g14, rfl, h14⟩ := sL h13
    obtain ⟨a15, g15, rfl, h15⟩ := sL h14
    obtain ⟨a16, g16, rfl, h16⟩ := sL h15
    obtain ⟨a17, g17, rfl, h17⟩ := sI h16
    obtain ⟨a18, g18, rfl, h18⟩ := sI h17
    obtain ⟨a19, g19, rfl, h19⟩ := sI h18
    obtain ⟨a20, g20, rfl, h20⟩ := sI h19
    obtain ⟨a21, g21, rfl, h21⟩ := sL h20
    obtain ⟨a22, g22, rfl, h22⟩ := sL h21
    obtain ⟨a23, g23, rfl, h23⟩ := sB h22
    obtain ⟨a24, g24, rfl, h24⟩ := sB h23
    obtain rfl := sE h24
    exact ⟨⟨⟨a0, a1⟩, ⟨⟨a2, a3⟩, ⟨a4, a5, a6, a7, a8⟩, ⟨a9⟩, a10, a11, ⟨a12, a13⟩, a14, a15, a16, a17, a18, a19, a20, a21, a22, a23⟩, a24⟩, rfl⟩
  | .tab, fs, h => by
    obtain ⟨a0, g0, rfl, h0⟩ := sL h
    obtain ⟨a1, g1, rfl, h1⟩ := sI h0
    obtain rfl := sE h1
    exact ⟨⟨a0, a1⟩, rfl⟩
  | .kept, fs, h => by
    obtain ⟨a0, g0, rfl, h0⟩ := sS h
    obtain ⟨a1, g1, rfl, h1⟩ := sS h0
    obtain ⟨a2, g2, rfl, h2⟩ := sI h1
    obtain ⟨a3, g3, rfl, h3⟩ := sI h2
    obtain ⟨a4, g4, rfl, h4⟩ := sS h3
    obtain ⟨a5, g5, rfl, h5⟩ := sI h4
    obtain ⟨a6, g6, rfl, h6⟩ := sB h5
    obtain ⟨a7, g7, rfl, h7⟩ := sS h6
    obtain rfl := sE h7
    exact ⟨⟨⟨a0, a1⟩, ⟨a2, a3, a4, a5, a6, a7⟩⟩, rfl⟩
  | .hidden, fs, h => by
    obtain ⟨a0, g0, rfl, h0⟩ := sB h
    obtain ⟨a1, g1, rfl, h1⟩ := sS h0
    obtain ⟨a2, g2, rfl, h2⟩ := sS h1
    obtain ⟨a3, g3, rfl, h3⟩ := sB h2
    obtain ⟨a4, g4, rfl, h4⟩ := sL h3
    obtain ⟨a5, g5, rfl, h5⟩ := sL h4
    obtain ⟨a6, g6, rfl, h6⟩ := sL h5
    obtain ⟨a7, g7, rfl, h7⟩ := sS h6
    obtain ⟨a8, g8, rfl, h8⟩ := sS h7
    obtain ⟨a9, g9, rfl, h9⟩ := sL h8
    obtain ⟨a10, g10, rfl, h10⟩ := sB h9
    obtain ⟨a11, g11, rfl, h11⟩ := sL h10
    obtain ⟨a12, g12, rfl, h12⟩ := sL h11
    obtain ⟨a13, g13, rfl, h13⟩ := sL h12
    obtain ⟨a14, g14, rfl, h14⟩ := sL h13
    obtain ⟨a15, g15, rfl, h15⟩ := sL h14
    obtain ⟨a16, g16, rfl, h16⟩ := sI h15
    obtain ⟨a17, g17, rfl, h17⟩ := sI h16
    obtain ⟨a18, g18, rfl, h18⟩ := sI h17
    obtain ⟨a19, g19, rfl, h19⟩ := sI h18
    obtain ⟨a20, g20, rfl, h20⟩ := sL h19
    obtain ⟨a21, g21, rfl, h21⟩ := sL h20
    obtain ⟨a22, g22, rfl, h22⟩ := sB h21
    obtain ⟨a23, g23, rfl, h23⟩ := sL h22
    obtain ⟨a24, g24, rfl, h24⟩ := sL h23
    obtain ⟨a25, g25, rfl, h25⟩ := sI h24
    obtain rfl := sE h25
    exact ⟨⟨a0, ⟨⟨a1, a2⟩, ⟨a3, a4, a5, a6, a7⟩, ⟨a8⟩, a9, a10, ⟨a11, a12⟩, a13, a14, a15, a16, a17, a18, a19, a20, a21, a22⟩, a23, a24, a25⟩, rfl⟩
  | .world, fs, h => by
    obtain ⟨a0, g0, rfl, h0⟩ := sL h
    obtain ⟨a1, g1, rfl, h1⟩ := sL h0
    obtain ⟨a2, g2, rfl, h2⟩ := sL h1
    obtain ⟨a3, g3, rfl, h3⟩ := sI h2
    obtain ⟨a4, g4, rfl, h4⟩ := sL h3
    obtain ⟨a5, g5, rfl, h5⟩ := sI h4
    obtain ⟨a6, g6, rfl, h6⟩ := sB h5
    obtain ⟨a7, g7, rfl, h7⟩ := sS h6
    obtain ⟨a8, g8, rfl, h8⟩ := sS h7
    obtain ⟨a9, g9, rfl, h9⟩ := sB h8
    obtain ⟨a10, g10, rfl, h10⟩ := sL h9
    obtain ⟨a11, g11, rfl, h11⟩ := sL h10
    obtain ⟨a12, g12, rfl, h12⟩ := sL h11
    obtain ⟨a13, g13, rfl, h13⟩ := sS h12
    obtain ⟨a14, g14, rfl, h14⟩ := sS h13
    obtain ⟨a15, g15, rfl, h15⟩ := sL h14
    obtain ⟨a16, g16, rfl, h16⟩ := sB h15
    obtain ⟨a17, g17, rfl, h17⟩ := sL h16
    obtain ⟨a18, g18, rfl, h18⟩ := sL h17
    obtain ⟨a19, g19, rfl, h19⟩ := sL h18
    obtain ⟨a20, g20, rfl, h20⟩ := sL h19
    obtain ⟨a21, g21, rfl, h21⟩ := sL h20
    obtain ⟨a22, g22, rfl, h22⟩ := sI h21
    obtain ⟨a23, g23, rfl, h23⟩ := sI h22
    obtain ⟨a24, g24, rfl, h24⟩ := sI h23
    obtain ⟨a25, g25, rfl, h25⟩ := sI h24
    obtain ⟨a26, g26, rfl, h26⟩ := sL h25
    obtain ⟨a27, g27, rfl, h27⟩ := sL h26
    obtain ⟨a28, g28, rfl, h28⟩ := sB h27
    obtain ⟨a29, g29, rfl, h29⟩ := sL h28
    obtain ⟨a30, g30, rfl, h30⟩ := sL h29
    obtain ⟨a31, g31, rfl, h31⟩ := sI h30
    obtain ⟨a32, g32, rfl, h32⟩ := sB h31
    obtain rfl := sE h32
    exact ⟨⟨⟨a0, ⟨a1⟩, a2, a3⟩, ⟨a4, a5⟩, ⟨a6, ⟨⟨a7, a8⟩, ⟨a9, a10, a11, a12, a13⟩, ⟨a14⟩, a15, a16, ⟨a17, a18⟩, a19, a20, a21, a22, a23, a24, a25, a26, a27, a28⟩, a29, a30, a31⟩, a32⟩, rfl⟩
  | .event, fs, h => by
    obtain ⟨a0, g0, rfl, h0⟩ := sI h
    obtain ⟨a1, g1, rfl, h1⟩ := sS h0
    obtain ⟨a2, g2, rfl, h2⟩ := sS h1
    obtain ⟨a3, g3, rfl, h3⟩ := sI h2
    obtain ⟨a4, g4, rfl, h4⟩ := sI h3
    obtain rfl := sE h4
    exact ⟨⟨a0, ⟨a1, a2⟩, a3, a4⟩, rfl⟩
theorem enc_shape (t : Ty) (x : El t) : (enc t x).map FC.shp = t.shapes := by cases t <;> rfl
end Go.D
